/-
  Layer 30 (refuse): clauses by their indices; Core, of the code and of the reference, as one plain function.
-/
import Derived.Test.YthibbellkcdodaaC6
namespace Go.Proofs.Ythibbellkcdodaa
open Go.Lad
set_option linter.unusedVariables false
set_option linter.unusedSimpArgs false
set_option linter.unusedSectionVars false
/-! ### lists without one element -/
def er {α : Type} (l : List α) (k : Nat) : List α := l.take k ++ l.drop (k + 1)
theorem er_get {α : Type} (l : List α) (k i : Nat) : (er l k)[i]? = if i < k ∧ k ≤ l.length then l[i]? else if k ≤ l.length then l[i + 1]? else l[i]? := by
  unfold er
  by_cases hk : k ≤ l.length
  · rw [List.getElem?_append, List.length_take, Nat.min_eq_left hk]
    by_cases hi : i < k
    · rw [if_pos hi, if_pos ⟨hi, hk⟩, List.getElem?_take_of_lt hi]
    · rw [if_neg hi, if_neg (fun h => hi h.1), if_pos hk, List.getElem?_drop]
      congr 1; omega
  · rw [List.take_of_length_le (by omega), List.drop_of_length_le (by omega), List.append_nil, if_neg (fun h => hk h.2), if_neg hk]
theorem er_len {α : Type} {l : List α} {k : Nat} (h : k < l.length) : (er l k).length = l.length - 1 := by
  unfold er; rw [List.length_append, List.length_take, List.length_drop]; omega
theorem er_sub {α : Type} {l : List α} {k : Nat} {x : α} (h : x ∈ er l k) : x ∈ l := by
  unfold er at h
  rcases List.mem_append.1 h with h | h
  · exact List.mem_of_mem_take h
  · exact List.mem_of_mem_drop h
theorem mem_er {α : Type} {l : List α} {k : Nat} (hk : k < l.length) {x : α} : x ∈ er l k ↔ ∃ i, i ≠ k ∧ l[i]? = some x := by
  rw [List.mem_iff_getElem?]
  refine ⟨fun ⟨i, hi⟩ => ?_, fun ⟨i, hne, hi⟩ => ?_⟩
  · rw [er_get] at hi
    split at hi
    · exact ⟨i, by omega, hi⟩
    · split at hi
      · exact ⟨i + 1, by omega, hi⟩
      · omega
  · by_cases h : i < k
    · exact ⟨i, by rw [er_get, if_pos ⟨h, by omega⟩]; exact hi⟩
    · refine ⟨i - 1, ?_⟩
      rw [er_get, if_neg (by omega), if_pos (by omega), show i - 1 + 1 = i by omega]; exact hi
theorem er_snoc {α : Type} (a : List α) (x : α) (k : Nat) : er (a ++ [x]) k = if a.length = k then er a k else er a k ++ [x] := by
  unfold er
  by_cases h1 : a.length = k
  · subst h1
    rw [if_pos rfl, List.take_append_of_le_length (Nat.le_refl _), List.drop_of_length_le (by simp), List.drop_of_length_le (by omega)]
  · rw [if_neg h1]
    by_cases h2 : a.length < k
    · rw [List.take_of_length_le (by simp; omega), List.drop_of_length_le (by simp; omega), List.take_of_length_le (by omega), List.drop_of_length_le (by omega), List.append_nil, List.append_nil]
    · rw [List.take_append_of_le_length (by omega), List.drop_append_of_le_length (by omega), List.append_assoc]
/-! ### clauses by their indices -/
def dfl : GClause := ([], 0, 0, 0)
def pickF (l : List GClause) (core : List Int) : List GClause := core.map fun i => l.getD i.toNat dfl
def Valid (l : List GClause) (core : List Int) : Prop := ∀ i ∈ core, 0 ≤ i ∧ i < (l.length : Int)
theorem idx_valid {l : List GClause} {i : Int} (h : 0 ≤ i ∧ i < (l.length : Int)) : idx l i = some (l.getD i.toNat dfl) := by
  rw [idx_int h.1 (by omega), List.getD_eq_getElem?_getD, List.getElem?_eq_getElem (by omega)]; rfl
theorem pick_mem {l : List GClause} {core : List Int} (hv : Valid l core) {c : GClause} (h : c ∈ pickF l core) : c ∈ l := by
  obtain ⟨i, hi, rfl⟩ := List.mem_map.1 h
  have := hv i hi
  rw [List.getD_eq_getElem?_getD, List.getElem?_eq_getElem (by omega)]
  exact List.getElem_mem _
theorem Valid.er {l : List GClause} {core : List Int} (h : Valid l core) (k : Nat) : Valid l (er core k) := fun i hi => h i (er_sub hi)
theorem pick_snoc (l : List GClause) (c : List Int) (x : Int) : pickF l (c ++ [x]) = pickF l c ++ [l.getD x.toNat dfl] := by unfold pickF; rw [List.map_append]; rfl
theorem pick_len (l : List GClause) (c : List Int) : (pickF l c).length = c.length := by unfold pickF; simp
theorem pick_eq {l : List GClause} {core : List Int} (hv : Valid l core) (hc : core.length ≤ 1000000) : refuse_pick_v2 l core = some (pickF l core) := by
  unfold refuse_pick_v2
  refine loopF_at (body := fun x => refuse_pick_v2.b1 l core x.1 x.2) (fun k => ((k : Int), pickF l (core.take k))) core.length rfl (fun k hk => ?_) ?_ (by omega)
  · simp only [refuse_pick_v2.b1, lt_n hk, cond_true, idx_nat hk, bind_in, idx_valid (hv _ (List.getElem_mem hk))]
    rw [app_in (by rw [pick_len, List.length_take]; simp only [List.length_singleton]; omega), bind_in, z64_nx hk (by omega), bind_in, take_snoc core k hk, pick_snoc]
  · simp only [refuse_pick_v2.b1, lt_e, cond_false, List.take_length]
theorem clauses_all {l : List GClause} {core : List Int} (hv : Valid l core) (hc : core.length ≤ 1000000) : ladingref30_clauses_v2 l core (-1) = some (pickF l core) := by
  unfold ladingref30_clauses_v2
  refine loopF_at (body := fun x => ladingref30_clauses_v2.b1 l core (-1) x.1 x.2) (fun k => ((k : Int), pickF l (core.take k))) core.length rfl (fun k hk => ?_) ?_ (by omega)
  · simp only [ladingref30_clauses_v2.b1, lt_n hk, cond_true]
    rw [bif_not, bif_eqZ, if_neg (by omega), idx_nat hk, bind_in, idx_valid (hv _ (List.getElem_mem hk)), bind_in, app_in (by rw [pick_len, List.length_take]; simp only [List.length_singleton]; omega), bind_in, z64_nx hk (by omega), bind_in, take_snoc core k hk, pick_snoc]
  · simp only [ladingref30_clauses_v2.b1, lt_e, cond_false, List.take_length]
theorem clauses_but {l : List GClause} {core : List Int} {j : Nat} (hv : Valid l core) (hc : core.length ≤ 1000000) : ladingref30_clauses_v2 l core (j : Int) = some (pickF l (er core j)) := by
  unfold ladingref30_clauses_v2
  refine loopF_at (body := fun x => ladingref30_clauses_v2.b1 l core (j : Int) x.1 x.2) (fun k => ((k : Int), pickF l (er (core.take k) j))) core.length (by simp [er, pickF]) (fun k hk => ?_) ?_ (by omega)
  · have hkl : (core.take k).length = k := by rw [List.length_take]; omega
    have hel : (er (core.take k) j).length ≤ k := by unfold er; rw [List.length_append, List.length_take, List.length_drop, hkl]; omega
    simp only [ladingref30_clauses_v2.b1, lt_n hk, cond_true]
    rw [bif_not, bif_eqZ, take_snoc core k hk, er_snoc, hkl]
    by_cases h : k = j
    · rw [if_pos (by omega), if_pos h, z64_nx hk (by omega), bind_in]
    · rw [if_neg (by omega), if_neg h, idx_nat hk, bind_in, idx_valid (hv _ (List.getElem_mem hk)), bind_in, app_in (by rw [pick_len]; simp only [List.length_singleton]; omega), bind_in, z64_nx hk (by omega), bind_in, pick_snoc]
  · simp only [ladingref30_clauses_v2.b1, lt_e, cond_false, List.take_length]
theorem without_eq {core : List Int} {k : Nat} (hk : k < core.length) (hc : core.length ≤ 1000000) : refuse_without core (k : Int) = some (er core k) := by
  unfold refuse_without
  rw [clone_eq hc, bind_in, z64_nx hk (by omega), bind_in]
  have h : slices_Delete_int (k : Int) ((k + 1 : Nat) : Int) core = some (er core k) := by
    unfold slices_Delete_int delF
    have e : (!Nat.beq core.length 0 && (leZ 0 (k : Int) && (leZ (k : Int) ((k + 1 : Nat) : Int) && leZ ((k + 1 : Nat) : Int) (core.length : Int)))) = true := by
      rw [leZ_eq, leZ_eq, leZ_eq, decide_eq_true (by omega), decide_eq_true (by omega), decide_eq_true (by omega)]
      cases hl : core.length with
      | zero => omega
      | succ n => rfl
    rw [e]; rfl
  rw [h, bind_in]
theorem without2_eq {core : List Int} {k : Nat} (hk : k < core.length) (hc : core.length ≤ 1000000) : refuse_without_v2 core (k : Int) = some (er core k) := (show refuse_without_v2 core (k : Int) = refuse_without core (k : Int) from rfl).trans (without_eq hk hc)
theorem Sized.pick {l : List GClause} {core : List Int} (h : Sized l) (hv : Valid l core) (hc : core.length ≤ 100000) : Sized (pickF l core) := ⟨by rw [pick_len]; exact hc, fun c hm => h.lits c (pick_mem hv hm)⟩
theorem right_pick {l : List GClause} {core : List Int} {n : Int} (hr : rightF l n = true) (hv : Valid l core) (hc : core.length ≤ 20000) : rightF (pickF l core) n = true := by
  obtain ⟨h1, h2⟩ := rightF_iff.1 hr
  exact rightF_iff.2 ⟨⟨h1.1, h1.2.1, by rw [pick_len]; exact hc⟩, fun c hm => h2 c (pick_mem hv hm)⟩
/-! ### the reference's Solve, its other instance -/
theorem rv2_j2 (a : List GClause) (b : List (List Int)) (c d : List Int) : ladingref27_Solve_v2.j2 a b c d = (ladingref27_Solve.j2 a b c d).map (Sum.map id (Sum.map id perm)) := by
  unfold ladingref27_Solve_v2.j2 ladingref27_Solve.j2
  cases app? b [d] with
  | none => rfl
  | some l =>
    rw [bind_in, bind_in]
    cases app? a [(d, 0, 0, 0)] with
    | none => rfl
    | some m =>
      rw [bind_in, bind_in]
      cases ltZ 4000 (l.length : Int) with
      | true => rfl
      | false =>
        rw [cond_false, cond_false]
        cases eqZ (c.length : Int) 0 with
        | true => rfl
        | false =>
          rw [cond_false, cond_false]
          cases z64 ((c.length : Int) - 1) with
          | none => rfl
          | some v =>
            rw [bind_in, bind_in]
            cases cut c 0 v with
            | none => rfl
            | some e => rfl
theorem rv2_b4 (p : Int) (q : Bool × List Int) (a : Int) (b : List Bool) : ladingref27_Solve_v2.b4 p q a b = (ladingref27_Solve.b4 p q a b).map (Sum.map id (Sum.map id perm)) := by
  unfold ladingref27_Solve_v2.b4 ladingref27_Solve.b4
  cases ltZ a p with
  | false => rfl
  | true =>
    rw [cond_true, cond_true]
    cases z64 (a + 1) with
    | none => rfl
    | some v =>
      rw [bind_in, bind_in]
      cases ladingref27_has q.2 v with
      | none => rfl
      | some i =>
        rw [bind_in, bind_in]
        cases idx b a with
        | none => rfl
        | some x => rfl
theorem rv2_j5 (p : Int) (q : Bool × List Int) (a : List GClause) (b : List (List Int)) (c : List Int) : ladingref27_Solve_v2.j5 p q a b c = (ladingref27_Solve.j5 p q a b c).map (Sum.map id perm) := by
  unfold ladingref27_Solve_v2.j5 ladingref27_Solve.j5
  rw [show (fun x : Int => ladingref27_Solve_v2.b3 p q x) = (fun x => ladingref27_Solve.b3 p q x) from rfl]
  cases loopF (fun x : Int => ladingref27_Solve.b3 p q x) 0 with
  | none => rfl
  | some v =>
    rw [bind_in, bind_in]
    unfold ladingref27_Solve_v2.j4 ladingref27_Solve.j4
    cases ltZ v p with
    | true =>
      rw [cond_true, cond_true]
      cases z64 (-v) with
      | none => rfl
      | some u =>
        rw [bind_in, bind_in]
        cases z64 (u - 1) with
        | none => rfl
        | some w =>
          rw [bind_in, bind_in]
          cases app? c [w] with
          | none => rfl
          | some l => rfl
    | false =>
      rw [cond_false, cond_false]
      cases msNeed p p with
      | none => rfl
      | some u =>
        rw [bind_in, bind_in]
        exact loopF_map (Sum.map id perm) (fun x => rv2_b4 p q x.1 x.2) _
theorem rv2_b5 (p : Int) (s : List Int) (a : List GClause) (b : List (List Int)) (c : List Int) : ladingref27_Solve_v2.b5 p s a b c = (ladingref27_Solve.b5 p s a b c).map (Sum.map id perm) := by
  unfold ladingref27_Solve_v2.b5 ladingref27_Solve.b5
  cases app? ([] : List Int) s with
  | none => rfl
  | some t =>
    rw [bind_in, bind_in]
    cases app? t c with
    | none => rfl
    | some i =>
      rw [bind_in, bind_in]
      cases ladingref26_Propagate a i with
      | none => rfl
      | some q =>
        rw [bind_in, bind_in]
        cases q.1 with
        | true =>
          rw [Bool.not_true, cond_false, cond_false, bind_in, bind_in]
          exact rv2_j5 p q a b c
        | false =>
          rw [Bool.not_false, cond_true, cond_true, show (fun x : Int × List Int => ladingref27_Solve_v2.b2 c x.1 x.2) = (fun x => ladingref27_Solve.b2 c x.1 x.2) from rfl]
          cases loopF (fun x : Int × List Int => ladingref27_Solve.b2 c x.1 x.2) (0, []) with
          | none => rfl
          | some l =>
            rw [bind_in, bind_in, rv2_j2]
            cases ladingref27_Solve.j2 a b c l with
            | none => rfl
            | some y => cases y with
              | inl y => exact rv2_j5 p q y.1 y.2.1 y.2.2
              | inr y => rfl
theorem rv2_b1 (p : Int) (s : List Int) (a : Int) : ladingref27_Solve_v2.b1 p s a = (ladingref27_Solve.b1 p s a).map (Sum.map id (Sum.map id perm)) := by
  unfold ladingref27_Solve_v2.b1 ladingref27_Solve.b1
  cases ltZ a (s.length : Int) with
  | false => rfl
  | true =>
    rw [cond_true, cond_true]
    cases ((idx s a).bind fun v6 => bif (eqZ v6 0) then some true else ((idx s a).bind fun v7 => (z64 (-p)).bind fun v8 => bif (ltZ v7 v8) then some true else ((idx s a).bind fun v9 => some (ltZ p v9)))) with
    | none => rfl
    | some b =>
      rw [bind_in, bind_in]
      unfold ladingref27_Solve_v2.j1 ladingref27_Solve.j1
      cases b with
      | true => rfl
      | false =>
        rw [cond_false, cond_false]
        cases z64 (a + 1) <;> rfl
theorem rsolve_v2 (l : List GClause) (n : Int) (s : List Int) : ladingref27_Solve_v2 l n s = (ladingref27_Solve l n s).map perm := by
  unfold ladingref27_Solve_v2 ladingref27_Solve
  cases ladingref26_Right l n with
  | none => rfl
  | some b =>
    rw [bind_in, bind_in]
    cases b with
    | false => rfl
    | true =>
      rw [Bool.not_true, cond_false, cond_false, loopF_map (Sum.map id perm) (fun x => rv2_b1 n s x)]
      cases loopF (fun x : Int => ladingref27_Solve.b1 n s x) 0 with
      | none => rfl
      | some y => cases y with
        | inr y => rfl
        | inl y =>
          show ladingref27_Solve_v2.j6 l n s = (ladingref27_Solve.j6 l n s).map perm
          unfold ladingref27_Solve_v2.j6 ladingref27_Solve.j6
          cases app? ([] : List GClause) l with
          | none => rfl
          | some c =>
            rw [bind_in, bind_in]
            exact loopF_map perm (fun x => rv2_b5 n s x.1 x.2.1 x.2.2) _
/-! ### Core -/
abbrev Ref := (List Int) × (List (List Int)) × List (List Bool)
def nul : Ref := ([], [], [])
def rangeI (n : Nat) : List Int := (List.range n).map fun (k : Nat) => (k : Int)
theorem rangeI_len (n : Nat) : (rangeI n).length = n := by unfold rangeI; simp
theorem rangeI_succ (n : Nat) : rangeI (n + 1) = rangeI n ++ [(n : Int)] := by unfold rangeI; rw [List.range_succ, List.map_append]; rfl
theorem rangeI_get {n k : Nat} (h : k < n) : (rangeI n)[k]? = some (k : Int) := by unfold rangeI; rw [List.getElem?_map, List.getElem?_range h]; rfl
theorem rangeI_valid (l : List GClause) : Valid l (rangeI l.length) := fun i hi => by
  unfold rangeI at hi
  obtain ⟨k, hk, rfl⟩ := List.mem_map.1 hi
  have := List.mem_range.1 hk
  omega
noncomputable def modF (l : List GClause) (n : Int) (c : List Int) : List (List Bool) ⊕ Int :=
  runI (fun k (s : List (List Bool)) (_ : Int) => Sum.map id Sum.inr (if (solF (pickF l (er c k)) n []).2.2 = 0 then .inl (s ++ [(solF (pickF l (er c k)) n []).1]) else (.inr (solF (pickF l (er c k)) n []).2.2 : List (List Bool) ⊕ Int))) Sum.inl 0 [] c
noncomputable def showF (l : List GClause) (n : Int) (c : List Int) : Ref × Int :=
  if (solF (pickF l c) n []).2.2 = 26 then
    match modF l n c with
    | .inl ms => ((c, (solF (pickF l c) n []).2.1, ms), 0)
    | .inr e => (nul, e)
  else (nul, (solF (pickF l c) n []).2.2)
noncomputable def redF (l : List GClause) (n : Int) : Nat → List Int → List Int ⊕ Int
  | 0, c => .inl c
  | k + 1, c => if (solF (pickF l (er c k)) n []).2.2 = 26 then redF l n k (er c k) else if (solF (pickF l (er c k)) n []).2.2 = 0 then redF l n k c else .inr (solF (pickF l (er c k)) n []).2.2
noncomputable def coreF (l : List GClause) (n : Int) : Ref × Int :=
  if rightF l n = true then
    if (solF l n []).2.2 = 0 then (nul, 4)
    else if (solF l n []).2.2 = 26 then
      match redF l n l.length (rangeI l.length) with
      | .inl c => showF l n c
      | .inr e => (nul, e)
    else (nul, (solF l n []).2.2)
  else (nul, 1)
theorem red_succ (l : List GClause) (n : Int) (k : Nat) (c : List Int) : redF l n (k + 1) c = if (solF (pickF l (er c k)) n []).2.2 = 26 then redF l n k (er c k) else if (solF (pickF l (er c k)) n []).2.2 = 0 then redF l n k c else .inr (solF (pickF l (er c k)) n []).2.2 := rfl
/-- what redF hands back are indices -/
theorem red_valid {l : List GClause} {n : Int} : ∀ {k : Nat} {c d : List Int}, Valid l c → redF l n k c = .inl d → Valid l d ∧ d.length ≤ c.length
  | 0, c, d, hv, h => by
    injection h with h
    subst h; exact ⟨hv, Nat.le_refl _⟩
  | k + 1, c, d, hv, h => by
    unfold redF at h
    split at h
    · have := red_valid (hv.er k) h
      refine ⟨this.1, Nat.le_trans this.2 ?_⟩
      unfold er; rw [List.length_append, List.length_take, List.length_drop]; omega
    · split at h
      · exact red_valid hv h
      · cases h
def gShow (c : List Int) (P : List (List Int)) : List (List Bool) ⊕ Int → Ref × Int
  | .inl ms => ((c, P, ms), 0)
  | .inr e => (nul, e)
theorem show_eq {l : List GClause} {n : Int} {c : List Int} (h : Sized l) (hv : Valid l c) (hc : c.length ≤ 20000) : refuse_show l n c = some (showF l n c) := by
  unfold refuse_show showF
  have hsc := h.pick hv (by omega)
  rw [pick_eq hv (by omega), bind_in, (sol_eq hsc (by simp)).2.1, bind_in]
  generalize hr : solF (pickF l c) n [] = r
  unfold perm
  simp only
  rw [bif_not, bif_eqZ]
  by_cases h26 : r.2.2 = 26
  · rw [if_pos h26, if_pos h26]
    have key := loop_run (body := fun x => refuse_show.b1 l n c x.1 x.2.1 x.2.2.1 x.2.2.2) (fun k (s : List (List Bool)) => ((k : Int), c, r.2.1, s)) c
      (fun k s (x : Int) => Sum.map id (gShow c r.2.1) (Sum.map id Sum.inr (if (solF (pickF l (er c k)) n []).2.2 = 0 then .inl (s ++ [(solF (pickF l (er c k)) n []).1]) else (.inr (solF (pickF l (er c k)) n []).2.2 : List (List Bool) ⊕ Int))))
      (fun s => gShow c r.2.1 (Sum.inl s)) (fun k s => s.length = k)
      (fun k hk s s' hs hf => by
        split at hf
        · injection hf with hf; subst hf; simp [hs]
        · cases hf)
      (fun k hk s hs => by
        have hel := er_len hk
        simp only [refuse_show.b1, lt_n hk, cond_true]
        rw [without2_eq hk (by omega), bind_in, pick_eq (hv.er k) (by omega), bind_in, (sol_eq (h.pick (hv.er k) (by omega)) (by simp)).1, bind_in, bif_not, bif_eqZ]
        generalize solF (pickF l (er c k)) n [] = q
        by_cases h0 : q.2.2 = 0
        · rw [if_pos h0, if_pos h0, app_in (by simp only [List.length_singleton]; omega), bind_in, z64_nx hk (by omega), bind_in]; rfl
        · rw [if_neg h0, if_neg h0]; rfl)
      (fun s hs => by simp only [refuse_show.b1, lt_e, cond_false]; rfl) (by omega) (s0 := []) rfl
    have key2 : loopF (fun x => refuse_show.b1 l n c x.1 x.2.1 x.2.2.1 x.2.2.2) ((0 : Int), c, r.2.1, ([] : List (List Bool))) = some (gShow c r.2.1 (modF l n c)) :=
      key.trans (congrArg some (runI_map (gShow c r.2.1) _ Sum.inl c 0 []))
    rw [key2]
    cases modF l n c <;> rfl
  · rw [if_neg h26, if_neg h26]; rfl
def gRed : List Int ⊕ Int → List Int ⊕ (Ref × Int)
  | .inl c => .inl c
  | .inr e => .inr (nul, e)
theorem red_loop {l : List GClause} {n : Int} (h : Sized l) (hl : l.length ≤ 10000) :
    loopF (fun x => refuse_Core.b2 l n x.1 x.2) ((l.length : Int) - 1, rangeI l.length) = some (gRed (redF l n l.length (rangeI l.length))) := by
  obtain ⟨r, h1, h2⟩ := loopF_inv (body := fun x => refuse_Core.b2 l n x.1 x.2) (fun j x => ∃ c, x = ((l.length : Int) - 1 - (j : Int), c) ∧ redF l n (l.length - j) c = redF l n l.length (rangeI l.length) ∧ c.length ≤ l.length ∧ l.length - j ≤ c.length ∧ Valid l c)
    (Q := fun r => r = gRed (redF l n l.length (rangeI l.length))) l.length (x := ((l.length : Int) - 1, rangeI l.length)) ⟨rangeI l.length, by simp, by rw [Nat.sub_zero], by rw [rangeI_len]; exact Nat.le_refl _, by rw [rangeI_len]; omega, rangeI_valid l⟩
    (fun j hj x hx => by
      obtain ⟨c, rfl, e1, e2, e3, e4⟩ := hx
      obtain ⟨k, hk⟩ : ∃ k, l.length - j = k + 1 := ⟨l.length - j - 1, by omega⟩
      have hkc : k < c.length := by omega
      have hel := er_len hkc
      have hv : ((l.length : Int) - 1 - (j : Int)) = (k : Int) := by omega
      rw [hk] at e1
      simp only [refuse_Core.b2, hv, leZ_eq]
      rw [decide_eq_true (by omega), cond_true, without_eq hkc (by omega), bind_in, pick_eq (e4.er k) (by omega), bind_in, (sol_eq (h.pick (e4.er k) (by omega)) (by simp)).1, bind_in, bif_eqZ]
      rw [red_succ] at e1
      have hz : z64 ((k : Int) - 1) = some ((l.length : Int) - 1 - ((j + 1 : Nat) : Int)) := by rw [z64_in (by omega) (by omega)]; congr 1; omega
      have hk' : l.length - (j + 1) = k := by omega
      generalize hq : solF (pickF l (er c k)) n [] = q at e1
      by_cases h26 : q.2.2 = 26
      · rw [if_pos h26] at e1 ⊢
        rw [hz, bind_in]
        exact .inl ⟨_, rfl, er c k, rfl, by rw [hk']; exact e1, by omega, by omega, e4.er k⟩
      · rw [if_neg h26] at e1 ⊢
        rw [bif_eqZ]
        by_cases h0 : q.2.2 = 0
        · rw [if_pos h0] at e1 ⊢
          rw [hz, bind_in]
          exact .inl ⟨_, rfl, c, rfl, by rw [hk']; exact e1, by omega, by omega, e4⟩
        · rw [if_neg h0] at e1 ⊢
          exact .inr ⟨_, rfl, by rw [← e1]; rfl⟩)
    (fun x hx => by
      obtain ⟨c, rfl, e1, e2, e3, e4⟩ := hx
      rw [Nat.sub_self] at e1
      refine ⟨.inl c, ?_, by rw [← e1]; rfl⟩
      simp only [refuse_Core.b2, leZ_eq]
      rw [decide_eq_false (by omega), cond_false])
    (by omega)
  rw [h1, h2]
theorem core_eq {l : List GClause} {n : Int} (h : Sized l) (hl : l.length ≤ 10000) : refuse_Core l n = some (coreF l n) := by
  unfold refuse_Core coreF
  rw [right_eq (ok_of (by omega) h.lits), bind_in]
  cases hr : rightF l n with
  | false => rw [Bool.not_false, cond_true, if_neg (by simp)]; rfl
  | true =>
    rw [Bool.not_true, cond_false, if_pos rfl, (sol_eq h (by simp)).1, bind_in, bif_eqZ]
    by_cases h0 : (solF l n []).2.2 = 0
    · rw [if_pos h0, if_pos h0]; rfl
    · rw [if_neg h0, if_neg h0, bif_eqZ]
      by_cases h26 : (solF l n []).2.2 = 26
      · rw [if_pos h26, if_pos h26]
        have key : loopF (fun x => refuse_Core.b1 l x.1 x.2) (0, []) = some (rangeI l.length) := by
          refine loopF_at (body := fun x => refuse_Core.b1 l x.1 x.2) (fun k => ((k : Int), rangeI k)) l.length rfl (fun k hk => ?_) ?_ (by omega)
          · simp only [refuse_Core.b1, lt_n hk, cond_true]
            rw [app_in (by rw [rangeI_len]; simp only [List.length_singleton]; omega), bind_in, z64_nx hk (by omega), bind_in, rangeI_succ]
          · simp only [refuse_Core.b1, lt_e, cond_false]
        rw [key, bind_in]
        unfold refuse_Core.j2
        rw [z64_in (by omega) (by omega), bind_in, red_loop h hl, bind_in]
        cases hred : redF l n l.length (rangeI l.length) with
        | inr e => rfl
        | inl c =>
          obtain ⟨v1, v2⟩ := red_valid (rangeI_valid l) hred
          rw [rangeI_len] at v2
          show refuse_Core.j1 l n c = _
          unfold refuse_Core.j1
          rw [show_eq h v1 (by omega), bind_in]
      · rw [if_neg h26, if_neg h26]; rfl
/-! ### the reference's Core -/
theorem rred_loop {l : List GClause} {n : Int} (h : Sized l) (hl : l.length ≤ 10000) :
    loopF (fun x => ladingref30_Core.b3 l n x.1 x.2) (rangeI l.length, (l.length : Int) - 1) = some (gRed (redF l n l.length (rangeI l.length))) := by
  obtain ⟨r, h1, h2⟩ := loopF_inv (body := fun x => ladingref30_Core.b3 l n x.1 x.2) (fun j x => ∃ c, x = (c, (l.length : Int) - 1 - (j : Int)) ∧ redF l n (l.length - j) c = redF l n l.length (rangeI l.length) ∧ c.length ≤ l.length ∧ l.length - j ≤ c.length ∧ Valid l c ∧ ∀ i, i < l.length - j → c[i]? = some (i : Int))
    (Q := fun r => r = gRed (redF l n l.length (rangeI l.length))) l.length (x := (rangeI l.length, (l.length : Int) - 1)) ⟨rangeI l.length, by simp, by rw [Nat.sub_zero], by rw [rangeI_len]; exact Nat.le_refl _, by rw [rangeI_len]; omega, rangeI_valid l, fun i hi => rangeI_get (by omega)⟩
    (fun j hj x hx => by
      obtain ⟨c, rfl, e1, e2, e3, e4, e5⟩ := hx
      obtain ⟨k, hk⟩ : ∃ k, l.length - j = k + 1 := ⟨l.length - j - 1, by omega⟩
      have hkc : k < c.length := by omega
      have hel := er_len hkc
      have hv : ((l.length : Int) - 1 - (j : Int)) = (k : Int) := by omega
      rw [hk] at e1 e5
      have hat : ∀ i (hi : i < c.length), i < k + 1 → c[i] = (i : Int) := fun i hi hik => by
        have := e5 i hik
        rw [List.getElem?_eq_getElem hi] at this
        exact Option.some.inj this
      have hfind : loopF (fun x => ladingref30_Core.b2 c (k : Int) x) 0 = some (k : Int) := by
        refine loopF_at (body := fun x => ladingref30_Core.b2 c (k : Int) x) (fun i => (i : Int)) k rfl (fun i hi => ?_) ?_ (by omega)
        · simp only [ladingref30_Core.b2, idx_nat (show i < c.length by omega), bind_in, hat i (by omega) (by omega)]
          rw [bif_not, bif_eqZ, if_neg (by omega), z64_nx hi (by omega), bind_in]
        · simp only [ladingref30_Core.b2, idx_nat hkc, bind_in, hat k hkc (by omega)]
          rw [bif_not, bif_eqZ, if_pos rfl]
      simp only [ladingref30_Core.b3, hv, leZ_eq]
      rw [decide_eq_true (by omega), cond_true, hfind, bind_in]
      unfold ladingref30_Core.j2
      rw [clauses_but e4 (by omega), bind_in, (sol_eq (h.pick (e4.er k) (by omega)) (by simp)).2.2.1, bind_in]
      rw [red_succ] at e1
      have hz : z64 ((k : Int) - 1) = some ((l.length : Int) - 1 - ((j + 1 : Nat) : Int)) := by rw [z64_in (by omega) (by omega)]; congr 1; omega
      have hk' : l.length - (j + 1) = k := by omega
      generalize hq : solF (pickF l (er c k)) n [] = q at e1
      simp only [eqZ_eq]
      unfold ladingref30_Core.j1
      by_cases h26 : q.2.2 = 26
      · rw [if_pos h26] at e1
        rw [h26, show decide ((26 : Int) = 0) = false from rfl, Bool.not_false, cond_true, decide_eq_true rfl, Bool.not_true, bind_in, cond_false, eqZ_eq, decide_eq_true rfl, cond_true, cut_in (by omega) (by omega) (by omega), bind_in, app_in (by simp only [List.length_nil, List.length_drop, List.length_take]; omega), bind_in, z64_succ (by omega), bind_in, cut_in (by omega) (by omega) (by omega), bind_in, app_in (by simp only [List.length_append, List.length_nil, List.length_drop, List.length_take]; omega), bind_in, hz, bind_in]
        have he : ([] : List Int) ++ (c.take (k : Int).toNat).drop (0 : Int).toNat ++ (c.take (c.length : Int).toNat).drop ((k + 1 : Nat) : Int).toNat = er c k := by
          rw [Int.toNat_natCast, Int.toNat_natCast, Int.toNat_natCast, show (0 : Int).toNat = 0 from rfl, List.drop_zero, List.nil_append, List.take_length]; rfl
        rw [he]
        exact .inl ⟨_, rfl, er c k, rfl, by rw [hk']; exact e1, by omega, by omega, e4.er k, fun i hi => by rw [er_get, if_pos ⟨by omega, by omega⟩]; exact e5 i (by omega)⟩
      · rw [if_neg h26] at e1
        by_cases h0 : q.2.2 = 0
        · rw [if_pos h0] at e1
          rw [h0, decide_eq_true rfl, Bool.not_true, cond_false, bind_in, cond_false, eqZ_eq, show decide ((0 : Int) = 26) = false from rfl, cond_false, hz, bind_in]
          exact .inl ⟨_, rfl, c, rfl, by rw [hk']; exact e1, by omega, by omega, e4, fun i hi => e5 i (by omega)⟩
        · rw [if_neg h0] at e1
          rw [decide_eq_false h0, Bool.not_false, cond_true, decide_eq_false h26, Bool.not_false, bind_in, cond_true]
          exact .inr ⟨_, rfl, by rw [← e1]; rfl⟩)
    (fun x hx => by
      obtain ⟨c, rfl, e1, e2, e3, e4, e5⟩ := hx
      rw [Nat.sub_self] at e1
      refine ⟨.inl c, ?_, by rw [← e1]; rfl⟩
      simp only [ladingref30_Core.b3, leZ_eq]
      rw [decide_eq_false (by omega), cond_false])
    (by omega)
  rw [h1, h2]
theorem rshow_eq {l : List GClause} {n : Int} {c : List Int} (h : Sized l) (hv : Valid l c) (hc : c.length ≤ 20000) : ladingref30_Core.j3 l n c = some (showF l n c) := by
  unfold ladingref30_Core.j3 showF
  have hsc := h.pick hv (by omega)
  rw [clauses_all hv (by omega), bind_in, rsolve_v2, (sol_eq hsc (by simp)).2.2.1]
  generalize hr : solF (pickF l c) n [] = r
  rw [show Option.map perm (some r) = some (perm r) from rfl, bind_in]
  unfold perm
  simp only
  rw [bif_not, bif_eqZ]
  by_cases h26 : r.2.2 = 26
  · rw [if_pos h26, if_pos h26]
    have key := loop_run (body := fun x => ladingref30_Core.b4 l n c x.1 x.2.1 x.2.2.1 x.2.2.2) (fun k (s : List (List Bool)) => ((k : Int), c, r.2.1, s)) c
      (fun k s (x : Int) => Sum.map id (gShow c r.2.1) (Sum.map id Sum.inr (if (solF (pickF l (er c k)) n []).2.2 = 0 then .inl (s ++ [(solF (pickF l (er c k)) n []).1]) else (.inr (solF (pickF l (er c k)) n []).2.2 : List (List Bool) ⊕ Int))))
      (fun s => gShow c r.2.1 (Sum.inl s)) (fun k s => s.length = k)
      (fun k hk s s' hs hf => by
        split at hf
        · injection hf with hf; subst hf; simp [hs]
        · cases hf)
      (fun k hk s hs => by
        have hel := er_len hk
        simp only [ladingref30_Core.b4, lt_n hk, cond_true]
        rw [clauses_but hv (by omega), bind_in, (sol_eq (h.pick (hv.er k) (by omega)) (by simp)).2.2.1, bind_in, bif_not, bif_eqZ]
        generalize solF (pickF l (er c k)) n [] = q
        by_cases h0 : q.2.2 = 0
        · rw [if_pos h0, if_pos h0, app_in (by simp only [List.length_singleton]; omega), bind_in, z64_nx hk (by omega), bind_in]; rfl
        · rw [if_neg h0, if_neg h0]; rfl)
      (fun s hs => by simp only [ladingref30_Core.b4, lt_e, cond_false]; rfl) (by omega) (s0 := []) rfl
    have key2 : loopF (fun x => ladingref30_Core.b4 l n c x.1 x.2.1 x.2.2.1 x.2.2.2) ((0 : Int), c, r.2.1, ([] : List (List Bool))) = some (gShow c r.2.1 (modF l n c)) :=
      key.trans (congrArg some (runI_map (gShow c r.2.1) _ Sum.inl c 0 []))
    rw [key2]
    cases modF l n c <;> rfl
  · rw [if_neg h26, if_neg h26]; rfl
theorem rcore_eq {l : List GClause} {n : Int} (h : Sized l) (hl : l.length ≤ 10000) : ladingref30_Core l n = some (coreF l n) := by
  unfold ladingref30_Core coreF
  rw [rright_eq (ok_of (by omega) h.lits), bind_in]
  cases hr : rightF l n with
  | false => rw [Bool.not_false, cond_true, if_neg (by simp)]; rfl
  | true =>
    rw [Bool.not_true, cond_false, if_pos rfl, (sol_eq h (by simp)).2.2.1, bind_in, bif_eqZ]
    by_cases h0 : (solF l n []).2.2 = 0
    · rw [if_pos h0, if_pos h0]; rfl
    · rw [if_neg h0, if_neg h0, bif_not, bif_eqZ]
      by_cases h26 : (solF l n []).2.2 = 26
      · rw [if_pos h26, if_pos h26]
        have key : loopF (fun x => ladingref30_Core.b1 l x.1 x.2) (0, []) = some (rangeI l.length) := by
          refine loopF_at (body := fun x => ladingref30_Core.b1 l x.1 x.2) (fun k => ((k : Int), rangeI k)) l.length rfl (fun k hk => ?_) ?_ (by omega)
          · simp only [ladingref30_Core.b1, lt_n hk, cond_true]
            rw [app_in (by rw [rangeI_len]; simp only [List.length_singleton]; omega), bind_in, z64_nx hk (by omega), bind_in, rangeI_succ]
          · simp only [ladingref30_Core.b1, lt_e, cond_false]
        rw [key, bind_in]
        unfold ladingref30_Core.j4
        rw [z64_in (by omega) (by omega), bind_in, rred_loop h hl, bind_in]
        cases hred : redF l n l.length (rangeI l.length) with
        | inr e => rfl
        | inl c =>
          obtain ⟨v1, v2⟩ := red_valid (rangeI_valid l) hred
          rw [rangeI_len] at v2
          exact rshow_eq h v1 (by omega)
      · rw [if_neg h26, if_neg h26]; rfl
end Go.Proofs.Ythibbellkcdodaa
