/-
  Layer 30 (refuse): clauses by their indices; Core, of the code and of the reference, as one plain function.
-/
import Derived.Test.YthibbellkcdodaaC6
namespace Go.Proofs.Ythibbellkcdodaa
open Go.Lad
set_option linter.unusedVariables false
set_option linter.unusedSimpArgs false
set_option linter.unusedSectionVars false
/-! ### lists without one element -/
def er {α : Type} (l : List α) (k : Nat) : List α := l.take k ++ l.drop (k + 1)
theorem er_get {α : Type} (l : List α) (k i : Nat) : (er l k)[i]? = if i < k ∧ k ≤ l.length then l[i]? else if k ≤ l.length then l[i + 1]? else l[i]? := by
  unfold er
  by_cases hk : k ≤ l.length
  · rw [List.getElem?_append, List.length_take, Nat.min_eq_left hk]
    by_cases hi : i < k
    · rw [if_pos hi, if_pos ⟨hi, hk⟩, List.getElem?_take_of_lt hi]
    · rw [if_neg hi, if_neg (fun h => hi h.1), if_pos hk, List.getElem?_drop]
      congr 1; omega
  · rw [List.take_of_length_le (by omega), List.drop_of_length_le (by omega), List.append_nil, if_neg (fun h => hk h.2), if_neg hk]
theorem er_len {α : Type} {l : List α} {k : Nat} (h : k < l.length) : (er l k).length = l.length - 1 := by
  unfold er; rw [List.length_append, List.length_take, List.length_drop]; omega
theorem er_sub {α : Type} {l : List α} {k : Nat} {x : α} (h : x ∈ er l k) : x ∈ l := by
  unfold er at h
  rcases List.mem_append.1 h with h | h
  · exact List.mem_of_mem_take h
  · exact List.mem_of_mem_drop h
theorem mem_er {α : Type} {l : List α} {k : Nat} (hk : k < l.length) {x : α} : x ∈ er l k ↔ ∃ i, i ≠ k ∧ l[i]? = some x := by
  rw [List.mem_iff_getElem?]
  refine ⟨fun ⟨i, hi⟩ => ?_, fun ⟨i, hne, hi⟩ => ?_⟩
  · rw [er_get] at hi
    split at hi
    · exact ⟨i, by omega, hi⟩
    · split at hi
      · exact ⟨i + 1, by omega, hi⟩
      · omega
  · by_cases h : i < k
    · exact ⟨i, by rw [er_get, if_pos ⟨h, by omega⟩]; exact hi⟩
    · refine ⟨i - 1, ?_⟩
      rw [er_get, if_neg (by omega), if_pos (by omega), show i - 1 + 1 = i by omega]; exact hi
theorem er_snoc {α : Type} (a : List α) (x : α) (k : Nat) : er (a ++ [x]) k = if a.length = k then er a k else er a k ++ [x] := by
  unfold er
  by_cases h1 : a.length = k
  · subst h1
    rw [if_pos rfl, List.take_append_of_le_length (Nat.le_refl _), List.drop_of_length_le (by simp), List.drop_of_length_le (by omega)]
  · rw [if_neg h1]
    by_cases h2 : a.length < k
    · rw [List.take_of_length_le (by simp; omega), List.drop_of_length_le (by simp; omega), List.take_of_length_le (by omega), List.drop_of_length_le (by omega), List.append_nil, List.append_nil]
    · rw [List.take_append_of_le_length (by omega), List.drop_append_of_le_length (by omega), List.append_assoc]
/-! ### clauses by their indices -/
def dfl : GClause := ([], 0, 0, 0)
def pickF (l : List GClause) (core : List Int) : List GClause := core.map fun i => l.getD i.toNat dfl
def Valid (l : List GClause) (core : List Int) : Prop := ∀ i ∈ core, 0 ≤ i ∧ i < (l.length : Int)
theorem idx_valid {l : List GClause} {i : Int} (h : 0 ≤ i ∧ i < (l.length : Int)) : idx l i = some (l.getD i.toNat dfl) := by
  rw [idx_int h.1 (by omega), List.getD_eq_getElem?_getD, List.getElem?_eq_getElem (by omega)]; rfl
theorem pick_mem {l : List GClause} {core : List Int} (hv : Valid l core) {c : GClause} (h : c ∈ pickF l core) : c ∈ l := by
  obtain ⟨i, hi, rfl⟩ := List.mem_map.1 h
  have := hv i hi
  rw [List.getD_eq_getElem?_getD, List.getElem?_eq_getElem (by omega)]
  exact List.getElem_mem _
theorem Valid.er {l : List GClause} {core : List Int} (h : Valid l core) (k : Nat) : Valid l (er core k) := fun i hi => h i (er_sub hi)
theorem pick_snoc (l : List GClause) (c : List Int) (x : Int) : pickF l (c ++ [x]) = pickF l c ++ [l.getD x.toNat dfl] := by unfold pickF; rw [List.map_append]; rfl
theorem pick_len (l : List GClause) (c : List Int) : (pickF l c).length = c.length := by unfold pickF; simp
theorem pick_eq {l : List GClause} {core : List Int} (hv : Valid l core) (hc : core.length ≤ 1000000) : refuse_pick_v2 l core = some (pickF l core) := by
  unfold refuse_pick_v2
  refine loopF_at (body := fun x => refuse_pick_v2.b1 l core x.1 x.2) (fun k => ((k : Int), pickF l (core.take k))) core.length rfl (fun k hk => ?_) ?_ (by omega)
  · simp only [refuse_pick_v2.b1, lt_n hk, cond_true, idx_nat hk, bind_in, idx_valid (hv _ (List.getElem_mem hk))]
    rw [app_in (by rw [pick_len, List.length_take]; simp only [List.length_singleton]; omega), bind_in, z64_nx hk (by omega), bind_in, take_snoc core k hk, pick_snoc]
  · simp only [refuse_pick_v2.b1, lt_e, cond_false, List.take_length]
theorem without_eq {core : List Int} {k : Nat} (hk : k < core.length) (hc : core.length ≤ 1000000) : refuse_without core (k : Int) = some (er core k) := by
  unfold refuse_without
  rw [clone_eq hc, bind_in, z64_nx hk (by omega), bind_in]
  have h : slices_Delete_int (k : Int) ((k + 1 : Nat) : Int) core = some (er core k) := by
    unfold slices_Delete_int delF
    have e : (!Nat.beq core.length 0 && (leZ 0 (k : Int) && (leZ (k : Int) ((k + 1 : Nat) : Int) && leZ ((k + 1 : Nat) : Int) (core.length : Int)))) = true := by
      rw [leZ_eq, leZ_eq, leZ_eq, decide_eq_true (by omega), decide_eq_true (by omega), decide_eq_true (by omega)]
      cases hl : core.length with
      | zero => omega
      | succ n => rfl
    rw [e]; rfl
  rw [h, bind_in]
theorem without2_eq {core : List Int} {k : Nat} (hk : k < core.length) (hc : core.length ≤ 1000000) : refuse_without_v2 core (k : Int) = some (er core k) := (show refuse_without_v2 core (k : Int) = refuse_without core (k : Int) from rfl).trans (without_eq hk hc)
theorem Sized.pick {l : List GClause} {core : List Int} (h : Sized l) (hv : Valid l core) (hc : core.length ≤ 100000) : Sized (pickF l core) := ⟨by rw [pick_len]; exact hc, fun c hm => h.lits c (pick_mem hv hm)⟩
theorem right_pick {l : List GClause} {core : List Int} {n : Int} (hr : rightF l n = true) (hv : Valid l core) (hc : core.length ≤ 20000) : rightF (pickF l core) n = true := by
  obtain ⟨h1, h2⟩ := rightF_iff.1 hr
  exact rightF_iff.2 ⟨⟨h1.1, h1.2.1, by rw [pick_len]; exact hc⟩, fun c hm => h2 c (pick_mem hv hm)⟩
/-! ### the reference's Solve, its other instance -/
/-! ### Core -/
abbrev Ref := (List Int) × (List (List Int)) × List (List Bool)
def nul : Ref := ([], [], [])
def rangeI (n : Nat) : List Int := (List.range n).map fun (k : Nat) => (k : Int)
theorem rangeI_len (n : Nat) : (rangeI n).length = n := by unfold rangeI; simp
theorem rangeI_succ (n : Nat) : rangeI (n + 1) = rangeI n ++ [(n : Int)] := by unfold rangeI; rw [List.range_succ, List.map_append]; rfl
theorem rangeI_valid (l : List GClause) : Valid l (rangeI l.length) := fun i hi => by
  unfold rangeI at hi
  obtain ⟨k, hk, rfl⟩ := List.mem_map.1 hi
  have := List.mem_range.1 hk
  omega
noncomputable def modF (l : List GClause) (n : Int) (c : List Int) : List (List Bool) ⊕ Int :=
  runI (fun k (s : List (List Bool)) (_ : Int) => Sum.map id Sum.inr (if (solF (pickF l (er c k)) n []).2.2 = 0 then .inl (s ++ [(solF (pickF l (er c k)) n []).1]) else (.inr (solF (pickF l (er c k)) n []).2.2 : List (List Bool) ⊕ Int))) Sum.inl 0 [] c
noncomputable def showF (l : List GClause) (n : Int) (c : List Int) : Ref × Int :=
  if (solF (pickF l c) n []).2.2 = 26 then
    match modF l n c with
    | .inl ms => ((c, (solF (pickF l c) n []).2.1, ms), 0)
    | .inr e => (nul, e)
  else (nul, (solF (pickF l c) n []).2.2)
noncomputable def redF (l : List GClause) (n : Int) : Nat → List Int → List Int ⊕ Int
  | 0, c => .inl c
  | k + 1, c => if (solF (pickF l (er c k)) n []).2.2 = 26 then redF l n k (er c k) else if (solF (pickF l (er c k)) n []).2.2 = 0 then redF l n k c else .inr (solF (pickF l (er c k)) n []).2.2
noncomputable def coreF (l : List GClause) (n : Int) : Ref × Int :=
  if rightF l n = true then
    if (solF l n []).2.2 = 0 then (nul, 4)
    else if (solF l n []).2.2 = 26 then
      match redF l n l.length (rangeI l.length) with
      | .inl c => showF l n c
      | .inr e => (nul, e)
    else (nul, (solF l n []).2.2)
  else (nul, 1)
theorem red_succ (l : List GClause) (n : Int) (k : Nat) (c : List Int) : redF l n (k + 1) c = if (solF (pickF l (er c k)) n []).2.2 = 26 then redF l n k (er c k) else if (solF (pickF l (er c k)) n []).2.2 = 0 then redF l n k c else .inr (solF (pickF l (er c k)) n []).2.2 := rfl
/-- what redF hands back are indices -/
theorem red_valid {l : List GClause} {n : Int} : ∀ {k : Nat} {c d : List Int}, Valid l c → redF l n k c = .inl d → Valid l d ∧ d.length ≤ c.length
  | 0, c, d, hv, h => by
    injection h with h
    subst h; exact ⟨hv, Nat.le_refl _⟩
  | k + 1, c, d, hv, h => by
    unfold redF at h
    split at h
    · have := red_valid (hv.er k) h
      refine ⟨this.1, Nat.le_trans this.2 ?_⟩
      unfold er; rw [List.length_append, List.length_take, List.length_drop]; omega
    · split at h
      · exact red_valid hv h
      · cases h
def gShow (c : List Int) (P : List (List Int)) : List (List Bool) ⊕ Int → Ref × Int
  | .inl ms => ((c, P, ms), 0)
  | .inr e => (nul, e)
theorem show_eq {l : List GClause} {n : Int} {c : List Int} (h : Sized l) (hv : Valid l c) (hc : c.length ≤ 20000) : refuse_show l n c = some (showF l n c) := by
  unfold refuse_show showF
  have hsc := h.pick hv (by omega)
  rw [pick_eq hv (by omega), bind_in, (sol_eq hsc (by simp)).2.1, bind_in]
  generalize hr : solF (pickF l c) n [] = r
  unfold perm
  simp only
  rw [bif_not, bif_eqZ]
  by_cases h26 : r.2.2 = 26
  · rw [if_pos h26, if_pos h26]
    have key := loop_run (body := fun x => refuse_show.b1 l n c x.1 x.2.1 x.2.2.1 x.2.2.2) (fun k (s : List (List Bool)) => ((k : Int), c, r.2.1, s)) c
      (fun k s (x : Int) => Sum.map id (gShow c r.2.1) (Sum.map id Sum.inr (if (solF (pickF l (er c k)) n []).2.2 = 0 then .inl (s ++ [(solF (pickF l (er c k)) n []).1]) else (.inr (solF (pickF l (er c k)) n []).2.2 : List (List Bool) ⊕ Int))))
      (fun s => gShow c r.2.1 (Sum.inl s)) (fun k s => s.length = k)
      (fun k hk s s' hs hf => by
        split at hf
        · injection hf with hf; subst hf; simp [hs]
        · cases hf)
      (fun k hk s hs => by
        have hel := er_len hk
        simp only [refuse_show.b1, lt_n hk, cond_true]
        rw [without2_eq hk (by omega), bind_in, pick_eq (hv.er k) (by omega), bind_in, (sol_eq (h.pick (hv.er k) (by omega)) (by simp)).1, bind_in, bif_not, bif_eqZ]
        generalize solF (pickF l (er c k)) n [] = q
        by_cases h0 : q.2.2 = 0
        · rw [if_pos h0, if_pos h0, app_in (by simp only [List.length_singleton]; omega), bind_in, z64_nx hk (by omega), bind_in]; rfl
        · rw [if_neg h0, if_neg h0]; rfl)
      (fun s hs => by simp only [refuse_show.b1, lt_e, cond_false]; rfl) (by omega) (s0 := []) rfl
    have key2 : loopF (fun x => refuse_show.b1 l n c x.1 x.2.1 x.2.2.1 x.2.2.2) ((0 : Int), c, r.2.1, ([] : List (List Bool))) = some (gShow c r.2.1 (modF l n c)) :=
      key.trans (congrArg some (runI_map (gShow c r.2.1) _ Sum.inl c 0 []))
    rw [key2]
    cases modF l n c <;> rfl
  · rw [if_neg h26, if_neg h26]; rfl
def gRed : List Int ⊕ Int → List Int ⊕ (Ref × Int)
  | .inl c => .inl c
  | .inr e => .inr (nul, e)
theorem red_loop {l : List GClause} {n : Int} (h : Sized l) (hl : l.length ≤ 10000) :
    loopF (fun x => refuse_Core.b2 l n x.1 x.2) ((l.length : Int) - 1, rangeI l.length) = some (gRed (redF l n l.length (rangeI l.length))) := by
  obtain ⟨r, h1, h2⟩ := loopF_inv (body := fun x => refuse_Core.b2 l n x.1 x.2) (fun j x => ∃ c, x = ((l.length : Int) - 1 - (j : Int), c) ∧ redF l n (l.length - j) c = redF l n l.length (rangeI l.length) ∧ c.length ≤ l.length ∧ l.length - j ≤ c.length ∧ Valid l c)
    (Q := fun r => r = gRed (redF l n l.length (rangeI l.length))) l.length (x := ((l.length : Int) - 1, rangeI l.length)) ⟨rangeI l.length, by simp, by rw [Nat.sub_zero], by rw [rangeI_len]; exact Nat.le_refl _, by rw [rangeI_len]; omega, rangeI_valid l⟩
    (fun j hj x hx => by
      obtain ⟨c, rfl, e1, e2, e3, e4⟩ := hx
      obtain ⟨k, hk⟩ : ∃ k, l.length - j = k + 1 := ⟨l.length - j - 1, by omega⟩
      have hkc : k < c.length := by omega
      have hel := er_len hkc
      have hv : ((l.length : Int) - 1 - (j : Int)) = (k : Int) := by omega
      rw [hk] at e1
      simp only [refuse_Core.b2, hv, leZ_eq]
      rw [decide_eq_true (by omega), cond_true, without_eq hkc (by omega), bind_in, pick_eq (e4.er k) (by omega), bind_in, (sol_eq (h.pick (e4.er k) (by omega)) (by simp)).1, bind_in, bif_eqZ]
      rw [red_succ] at e1
      have hz : z64 ((k : Int) - 1) = some ((l.length : Int) - 1 - ((j + 1 : Nat) : Int)) := by rw [z64_in (by omega) (by omega)]; congr 1; omega
      have hk' : l.length - (j + 1) = k := by omega
      generalize hq : solF (pickF l (er c k)) n [] = q at e1
      by_cases h26 : q.2.2 = 26
      · rw [if_pos h26] at e1 ⊢
        rw [hz, bind_in]
        exact .inl ⟨_, rfl, er c k, rfl, by rw [hk']; exact e1, by omega, by omega, e4.er k⟩
      · rw [if_neg h26] at e1 ⊢
        rw [bif_eqZ]
        by_cases h0 : q.2.2 = 0
        · rw [if_pos h0] at e1 ⊢
          rw [hz, bind_in]
          exact .inl ⟨_, rfl, c, rfl, by rw [hk']; exact e1, by omega, by omega, e4⟩
        · rw [if_neg h0] at e1 ⊢
          exact .inr ⟨_, rfl, by rw [← e1]; rfl⟩)
    (fun x hx => by
      obtain ⟨c, rfl, e1, e2, e3, e4⟩ := hx
      rw [Nat.sub_self] at e1
      refine ⟨.inl c, ?_, by rw [← e1]; rfl⟩
      simp only [refuse_Core.b2, leZ_eq]
      rw [decide_eq_false (by omega), cond_false])
    (by omega)
  rw [h1, h2]
theorem core_eq {l : List GClause} {n : Int} (h : Sized l) (hl : l.length ≤ 10000) : refuse_Core l n = some (coreF l n) := by
  unfold refuse_Core coreF
  rw [right_eq (ok_of (by omega) h.lits), bind_in]
  cases hr : rightF l n with
  | false => rw [Bool.not_false, cond_true, if_neg (by simp)]; rfl
  | true =>
    rw [Bool.not_true, cond_false, if_pos rfl, (sol_eq h (by simp)).1, bind_in, bif_eqZ]
    by_cases h0 : (solF l n []).2.2 = 0
    · rw [if_pos h0, if_pos h0]; rfl
    · rw [if_neg h0, if_neg h0, bif_eqZ]
      by_cases h26 : (solF l n []).2.2 = 26
      · rw [if_pos h26, if_pos h26]
        have key : loopF (fun x => refuse_Core.b1 l x.1 x.2) (0, []) = some (rangeI l.length) := by
          refine loopF_at (body := fun x => refuse_Core.b1 l x.1 x.2) (fun k => ((k : Int), rangeI k)) l.length rfl (fun k hk => ?_) ?_ (by omega)
          · simp only [refuse_Core.b1, lt_n hk, cond_true]
            rw [app_in (by rw [rangeI_len]; simp only [List.length_singleton]; omega), bind_in, z64_nx hk (by omega), bind_in, rangeI_succ]
          · simp only [refuse_Core.b1, lt_e, cond_false]
        rw [key, bind_in]
        unfold refuse_Core.j2
        rw [z64_in (by omega) (by omega), bind_in, red_loop h hl, bind_in]
        cases hred : redF l n l.length (rangeI l.length) with
        | inr e => rfl
        | inl c =>
          obtain ⟨v1, v2⟩ := red_valid (rangeI_valid l) hred
          rw [rangeI_len] at v2
          show refuse_Core.j1 l n c = _
          unfold refuse_Core.j1
          rw [show_eq h v1 (by omega), bind_in]
      · rw [if_neg h26, if_neg h26]; rfl
/-! ### the reference's Core -/
end Go.Proofs.Ythibbellkcdodaa
