/-
  Layer 27 (solve): SolveOrder.
-/
import Derived.Test.YtecegoknbcmenaaS5
namespace Go.Proofs.Ytecegoknbcmenaa
open Go.Lad
set_option linter.unusedVariables false
set_option linter.unusedSimpArgs false
set_option linter.unusedSectionVars false
/-- the same clauses, as sets -/
def Sim (C C' : List (List Int)) : Prop := ∀ c ∈ C, ∃ c' ∈ C', ∀ x, x ∈ c ↔ x ∈ c'
theorem Sim.app {C C' : List (List Int)} (h : Sim C C') (L : List (List Int)) : Sim (C ++ L) (C' ++ L) := fun d hd => by
  rcases List.mem_append.1 hd with hd | hd
  · obtain ⟨e, h1, h2⟩ := h d hd
    exact ⟨e, List.mem_append_left _ h1, h2⟩
  · exact ⟨d, List.mem_append_right _ hd, fun x => Iff.rfl⟩
theorem step_sim {C C' : List (List Int)} {n : Nat} {s s' : List Int} (h1 : Sim C C') (h2 : Sim C' C) (hs : ∀ x, x ∈ s ↔ x ∈ s') (st : List (List Int) × List Int) : step C n s st = step C' n s' st := by
  have hm : ∀ x, x ∈ s ++ st.2 ↔ x ∈ s' ++ st.2 := fun x => by rw [List.mem_append, List.mem_append, hs]
  have hf : failB (C ++ st.1) (s ++ st.2) = failB (C' ++ st.1) (s' ++ st.2) := by
    rw [Bool.eq_iff_iff, failB_iff, failB_iff]
    exact ⟨fun h => h.sub (fun x hx hl => .start ((hm x).1 hx) hl) (h1.app _), fun h => h.sub (fun x hx hl => .start ((hm x).2 hx) hl) (h2.app _)⟩
  have hd : derB (C ++ st.1) (s ++ st.2) = derB (C' ++ st.1) (s' ++ st.2) := funext fun x => by
    rw [Bool.eq_iff_iff, derB_iff, derB_iff]
    exact ⟨fun h => h.sub (fun x hx hl => .start ((hm x).1 hx) hl) (h1.app _), fun h => h.sub (fun x hx hl => .start ((hm x).2 hx) hl) (h2.app _)⟩
  unfold step clos
  rw [hf, hd]
theorem runs_sim {C C' : List (List Int)} {n : Nat} {s s' : List Int} (h1 : Sim C C') (h2 : Sim C' C) (hs : ∀ x, x ∈ s ↔ x ∈ s') {st : List (List Int) × List Int} {r : Res} (h : Runs C n s st r) : Runs C' n s' st r := by
  induction h with
  | stop h => exact .stop (by rw [← step_sim h1 h2 hs]; exact h)
  | next h _ ih => exact .next (by rw [← step_sim h1 h2 hs]; exact h) ih
def backC (w : GWhy) (c : GClause) : GClause := (c.1.reverse ++ c.1, w)
def dup (s : List Int) : List Int := s.flatMap fun x => [x, x]
theorem dup_snoc (s : List Int) (x : Int) : dup (s ++ [x]) = dup s ++ [x, x] := by unfold dup; rw [List.flatMap_append]; simp
theorem mem_dup {s : List Int} {x : Int} : x ∈ dup s ↔ x ∈ s := by
  unfold dup
  rw [List.mem_flatMap]
  constructor
  · rintro ⟨y, hy, hx⟩
    have : x = y := by simpa using hx
    rw [this]; exact hy
  · exact fun h => ⟨x, h, by simp⟩
theorem dup_len (s : List Int) : (dup s).length = 2 * s.length := by
  induction s with
  | nil => rfl
  | cons x s ih =>
    show ([x, x] ++ dup s).length = _
    rw [List.length_append, ih, List.length_cons]; simp; omega
theorem back_eq {l : List GClause} {w : GWhy} (hl : l.length ≤ 40) (hc : ∀ c ∈ l, c.1.length ≤ 8) : loopF (fun x => ladinglaw27_SolveOrder.b2 l w x.1 x.2) ((l.length : Int) - 1, []) = some (l.reverse.map (backC w)) := by
  refine loopF_at (body := fun x => ladinglaw27_SolveOrder.b2 l w x.1 x.2) (fun k => ((l.length : Int) - 1 - (k : Int), (l.reverse.take k).map (backC w))) l.length (by simp) (fun k hk => ?_) ?_ (by omega)
  · have hk2 : l.length - 1 - k < l.length := by omega
    have hk3 : k < l.reverse.length := by rw [List.length_reverse]; exact hk
    have hrev : l.reverse[k] = l[l.length - 1 - k] := by rw [List.getElem_reverse]
    have e : (l.length : Int) - 1 - (k : Int) = ((l.length - 1 - k : Nat) : Int) := by omega
    simp only [ladinglaw27_SolveOrder.b2, leZ_eq]
    rw [decide_eq_true (by omega), cond_true, e, idx_nat hk2, bind_in, take_snoc _ k hk3, hrev]
    have hcl := hc _ (List.getElem_mem hk2)
    have hidx : idx l ((l.length - 1 - k : Nat) : Int) = some l[l.length - 1 - k] := idx_nat hk2
    generalize l[l.length - 1 - k] = c at *
    rw [z64_in (by omega) (by omega), bind_in]
    refine loopF_at (body := fun x => ladinglaw27_SolveOrder.b1 l w ((l.length - 1 - k : Nat) : Int) ((l.reverse.take k).map (backC w)) x.1 x.2) (fun j => ((c.1.length : Int) - 1 - (j : Int), c.1.reverse.take j)) c.1.length (by simp) (fun j hj => ?_) ?_ (by omega)
    · have hj2 : c.1.length - 1 - j < c.1.length := by omega
      have hj3 : j < c.1.reverse.length := by rw [List.length_reverse]; exact hj
      have hrev2 : c.1.reverse[j] = c.1[c.1.length - 1 - j] := by rw [List.getElem_reverse]
      simp only [ladinglaw27_SolveOrder.b1, leZ_eq]
      rw [decide_eq_true (by omega), cond_true, hidx, bind_in, show (c.1.length : Int) - 1 - (j : Int) = ((c.1.length - 1 - j : Nat) : Int) by omega, idx_nat hj2, bind_in,
        app_in (by simp only [List.length_take, List.length_reverse, List.length_singleton]; omega), bind_in, z64_in (by omega) (by omega), bind_in, take_snoc _ j hj3, hrev2, show ((c.1.length - 1 - j : Nat) : Int) - 1 = (c.1.length : Int) - 1 - ((j + 1 : Nat) : Int) by omega]
    · simp only [ladinglaw27_SolveOrder.b1, leZ_eq]
      rw [decide_eq_false (by omega), cond_false, hidx, bind_in, List.take_of_length_le (by simp), app_in (by simp only [List.length_reverse]; omega), bind_in, app_in (by simp only [List.length_map, List.length_take, List.length_reverse, List.length_singleton]; omega), bind_in, z64_in (by omega) (by omega), bind_in,
        show ((l.length - 1 - k : Nat) : Int) - 1 = (l.length : Int) - 1 - ((k + 1 : Nat) : Int) by omega, List.map_append]; rfl
  · simp only [ladinglaw27_SolveOrder.b2, leZ_eq]
    rw [decide_eq_false (by omega), cond_false, List.take_of_length_le (by simp)]
theorem dup_eq {s : List Int} (hs : s.length ≤ 10) : loopF (fun x => ladinglaw27_SolveOrder.b3 s x.1 x.2) ((s.length : Int) - 1, []) = some (dup s.reverse) := by
  refine loopF_at (body := fun x => ladinglaw27_SolveOrder.b3 s x.1 x.2) (fun k => ((s.length : Int) - 1 - (k : Int), dup (s.reverse.take k))) s.length (by simp [dup]) (fun k hk => ?_) ?_ (by omega)
  · have hk2 : s.length - 1 - k < s.length := by omega
    have hk3 : k < s.reverse.length := by rw [List.length_reverse]; exact hk
    have hrev : s.reverse[k] = s[s.length - 1 - k] := by rw [List.getElem_reverse]
    simp only [ladinglaw27_SolveOrder.b3, leZ_eq]
    rw [decide_eq_true (by omega), cond_true, show (s.length : Int) - 1 - (k : Int) = ((s.length - 1 - k : Nat) : Int) by omega, idx_nat hk2, bind_in, bind_in,
      app_in (by rw [dup_len]; simp only [List.length_take, List.length_reverse, List.length_cons, List.length_nil]; omega), bind_in, z64_in (by omega) (by omega), bind_in, take_snoc _ k hk3, hrev, dup_snoc, show ((s.length - 1 - k : Nat) : Int) - 1 = (s.length : Int) - 1 - ((k + 1 : Nat) : Int) by omega]
  · simp only [ladinglaw27_SolveOrder.b3, leZ_eq]
    rw [decide_eq_false (by omega), cond_false, List.take_of_length_le (by simp)]
theorem order_true (l : List GClause) (n : Int) (asm : List Int) (w : GWhy) : ladinglaw27_SolveOrder l n asm w = some true := by
  unfold ladinglaw27_SolveOrder
  rw [small_true, bind_in]
  obtain ⟨b, h1, h2⟩ := few_eq (l := l) (n := n) (most := 13) (s := asm)
  rw [h1, bind_in]
  cases b with
  | false => rw [Bool.not_false, cond_true]
  | true =>
    obtain ⟨g1, g2, g3, g4⟩ := h2 rfl
    have hc : ∀ c ∈ l, c.1.length ≤ 1000000 := fun c hc => by have := g2 c hc; omega
    rw [Bool.not_true, cond_false, z64_in (by omega) (by omega), bind_in, back_eq g1 g2, bind_in]
    unfold ladinglaw27_SolveOrder.j2
    rw [z64_in (by omega) (by omega), bind_in, dup_eq g4, bind_in]
    unfold ladinglaw27_SolveOrder.j1
    have hl2 : (l.reverse.map (backC w) ++ l).length ≤ 100 := by simp only [List.length_append, List.length_map, List.length_reverse]; omega
    have hmem : ∀ c ∈ l.reverse.map (backC w) ++ l, ∃ d ∈ l, (∀ x, x ∈ c.1 ↔ x ∈ d.1) ∧ c.1.length ≤ 16 := fun c hm => by
      rcases List.mem_append.1 hm with hm | hm
      · obtain ⟨d, hd, rfl⟩ := List.mem_map.1 hm
        have hd := List.mem_reverse.1 hd
        have := g2 d hd
        exact ⟨d, hd, fun x => by unfold backC; simp, by unfold backC; simp only [List.length_append, List.length_reverse]; omega⟩
      · have := g2 c hm
        exact ⟨c, hm, fun x => Iff.rfl, by omega⟩
    have hc2 : ∀ c ∈ l.reverse.map (backC w) ++ l, c.1.length ≤ 1000000 := fun c hm => by
      obtain ⟨d, _, _, h⟩ := hmem c hm
      omega
    have hs1 : Sim (lits l) (lits (l.reverse.map (backC w) ++ l)) := fun c hm => ⟨c, by unfold lits; rw [List.map_append]; exact List.mem_append_right _ hm, fun x => Iff.rfl⟩
    have hs2 : Sim (lits (l.reverse.map (backC w) ++ l)) (lits l) := fun c hm => by
      obtain ⟨d, hd, rfl⟩ := List.mem_map.1 hm
      obtain ⟨e, he, h, _⟩ := hmem d hd
      exact ⟨e.1, List.mem_map.2 ⟨e, he, rfl⟩, h⟩
    have hss : ∀ x, x ∈ asm ↔ x ∈ dup asm.reverse := fun x => by rw [mem_dup, List.mem_reverse]
    have hdl : (dup asm.reverse).length ≤ 100000 := by rw [dup_len, List.length_reverse]; omega
    have hR : rightF (l.reverse.map (backC w) ++ l) n = rightF l n := by
      rw [Bool.eq_iff_iff, rightF_iff, rightF_iff]
      constructor
      · exact fun h => ⟨⟨h.1.1, h.1.2.1, by omega⟩, fun c hm x hx => h.2 c (List.mem_append_right _ hm) x hx⟩
      · refine fun h => ⟨⟨h.1.1, h.1.2.1, by omega⟩, fun c hm x hx => ?_⟩
        obtain ⟨d, hd, he, _⟩ := hmem c hm
        exact h.2 d hd x ((he x).1 hx)
    have hB : badA n (dup asm.reverse) = badA n asm := by
      unfold badA
      rw [Bool.eq_iff_iff, List.any_eq_true, List.any_eq_true]
      exact ⟨fun ⟨x, hx, h⟩ => ⟨x, (hss x).2 hx, h⟩, fun ⟨x, hx, h⟩ => ⟨x, (hss x).1 hx, h⟩⟩
    have key : ∃ r, solve_Solve l n asm = some r ∧ solve_Solve (l.reverse.map (backC w) ++ l) n (dup asm.reverse) = some r ∧ r.1.length ≤ 2000 ∧ r.2.1.length ≤ 4000 ∧ ∀ c ∈ r.2.1, c.length ≤ 2000 := by
      cases hr : rightF l n with
      | false => exact ⟨_, solve_bad (by omega) hc (by omega) (.inl hr), solve_bad (by omega) hc2 hdl (.inl (by rw [hR]; exact hr)), by simp, by simp, fun c hc => by cases hc⟩
      | true =>
        cases hb : badA n asm with
        | true => exact ⟨_, solve_bad (by omega) hc (by omega) (.inr hb), solve_bad (by omega) hc2 hdl (.inr (by rw [hB]; exact hb)), by simp, by simp, fun c hc => by cases hc⟩
        | false =>
          have hn := (rightF_iff.1 hr).1
          obtain ⟨N, rfl⟩ : ∃ N : Nat, n = N := ⟨n.toNat, by omega⟩
          obtain ⟨r, h3, h4⟩ := solve_eq (n := N) (by omega) (by omega) hc (by omega) hr hb
          obtain ⟨r', h5, h6⟩ := solve_eq (n := N) (l := l.reverse.map (backC w) ++ l) (asm := dup asm.reverse) (by omega) (by omega) hc2 hdl (by rw [hR]; exact hr) (by rw [hB]; exact hb)
          have := (runs_sim hs1 hs2 hss h4).det h6
          subst this
          have h7 := (good_nil N).res (by omega) h4
          exact ⟨_, h3, h5, by omega, h7.2.1, fun c hc => by have := h7.2.2 c hc; omega⟩
    obtain ⟨r, k1, k2, k3, k4, k5⟩ := key
    rw [k1, bind_in, app_in (by simp only [List.length_map, List.length_reverse]; omega), bind_in, k2, bind_in, cond_true, bools_eq (by omega), bind_in, decide_eq_true rfl, cond_true, lists_eq (by omega) (fun c hc => by have := k5 c hc; omega), bind_in, decide_eq_true rfl, cond_true, eqZ_eq, decide_eq_true rfl]
end Go.Proofs.Ytecegoknbcmenaa
