/-
  Layer 10 (name): the functions of lists, in plain words.
-/
import Derived.Test.YtkhlbajdoaokeaaDoorN2
namespace Go.Proofs.YtkhlbajdoaokeaaDoor
open Go.Lad
set_option linter.unusedVariables false
set_option linter.unusedSimpArgs false

theorem scan_idx {α : Type} (P : α → Bool) : ∀ (l : List α) (k : Nat), scan (fun k x => if P x = true then some (k : Int) else none) k l = (l.findIdx? P).map (fun i => ((k + i : Nat) : Int))
  | [], k => rfl
  | x :: r, k => by
    unfold scan
    rw [List.findIdx?_cons]
    cases P x with
    | true => rfl
    | false =>
      simp only [Bool.false_eq_true, if_false]
      rw [scan_idx P r (k + 1)]
      cases r.findIdx? P with
      | none => rfl
      | some i => simp; omega
theorem scan_find {α β : Type} (P : α → Bool) (g : α → β) : ∀ (l : List α) (k : Nat), scan (fun _ x => if P x = true then some (g x) else none) k l = (l.find? P).map g
  | [], k => rfl
  | x :: r, k => by
    unfold scan
    rw [List.find?_cons]
    cases P x with
    | true => rfl
    | false =>
      simp only [Bool.false_eq_true, if_false]
      exact scan_find P g r (k + 1)
theorem fi_some {α : Type} {P : α → Bool} {l : List α} {i : Nat} (h : l.findIdx? P = some i) : ∃ hi : i < l.length, P l[i] = true := by
  have := List.findIdx?_eq_some_iff_getElem.1 h
  exact ⟨this.1, this.2.1⟩
theorem fi_none {α : Type} {P : α → Bool} {l : List α} (h : l.findIdx? P = none) : ∀ x ∈ l, P x = false := List.findIdx?_eq_none_iff.1 h
theorem fi_find {α : Type} (P : α → Bool) : ∀ (l : List α), l.find? P = (l.findIdx? P).bind fun i => l[i]?
  | [] => rfl
  | x :: r => by
    rw [List.find?_cons, List.findIdx?_cons]
    cases P x with
    | true => rfl
    | false =>
      simp only [Bool.false_eq_true, if_false]
      rw [fi_find P r]
      cases r.findIdx? P <;> rfl
theorem fi_any {α : Type} (P : α → Bool) (l : List α) : (l.findIdx? P).isSome = l.any P := by
  cases h : l.findIdx? P with
  | some i =>
    obtain ⟨hi, hp⟩ := fi_some h
    symm; exact List.any_eq_true.2 ⟨_, List.getElem_mem hi, hp⟩
  | none =>
    symm
    rw [Option.isSome_none, List.any_eq_false]
    intro x hx
    simp [fi_none h x hx]
def ixI {α : Type} (P : α → Bool) (l : List α) : Int := match l.findIdx? P with | some i => (i : Int) | none => -1
theorem ixI_neg {α : Type} (P : α → Bool) (l : List α) : leZ 0 (ixI P l) = l.any P := by
  rw [← fi_any, leZ_eq]
  unfold ixI
  cases l.findIdx? P with
  | some i => simp
  | none => rfl
/-- strings and lists that are short enough -/
def okN (l : List Bs) : Prop := l.length ≤ 1000 ∧ ∀ x ∈ l, x.length ≤ 1000
def okH (l : List GHold) : Prop := l.length ≤ 1000 ∧ ∀ x ∈ l, x.1.length ≤ 1000
theorem okN_nil : okN [] := ⟨by simp, by simp⟩
theorem okH_nil : okH [] := ⟨by simp, by simp⟩
theorem okN_at {l : List Bs} (h : okN l) {k : Nat} (hk : k < l.length) : l[k].length + 1 ≤ Mx := by have := h.2 _ (List.getElem_mem hk); unfold Mx; omega
theorem okH_at {l : List GHold} (h : okH l) {k : Nat} (hk : k < l.length) : l[k].1.length + 1 ≤ Mx := by have := h.2 _ (List.getElem_mem hk); unfold Mx; omega
theorem ixGetD {α : Type} (P : α → Bool) (l : List α) : (scan (fun k x => if P x = true then some (k : Int) else none) 0 l).getD (-1) = ixI P l := by
  rw [scan_idx]
  unfold ixI
  cases l.findIdx? P with
  | none => rfl
  | some i => simp
/-! ### Guard -/
def guardS (names : List Bs) (s : Bs) : Bs × Bool := match names.findIdx? (fun x => conf x s) with | some i => (names[i]?.getD [], true) | none => ([], false)
theorem ixs_eq {names : List Bs} {s : Bs} (hn : okN names) (hs : s.length ≤ 1000) : slices_IndexFunc_string_string names s = some (ixI (fun x => conf x s) names) := by
  have h1 := hn.1
  unfold slices_IndexFunc_string_string
  rw [← ixGetD]
  refine loop_if (body := fun x => slices_IndexFunc_string_string.b1 names s x) names (fun _ x => conf x s) (fun k _ => (k : Int)) (-1) (fun k hk => ?_) ?_
  · dsimp only [slices_IndexFunc_string_string.b1]
    rw [bif_ltZ, if_pos (by omega), idx_nat hk, bind_in]
    unfold name_Guard_1
    rw [conf_eq (okN_at hn hk) (by unfold Mx; omega), bind_in, bind_in, z64_succ (by omega)]
    cases conf names[k] s <;> rfl
  · dsimp only [slices_IndexFunc_string_string.b1]
    rw [bif_ltZ, if_neg (by omega)]
theorem guard_eq {names : List Bs} {s : Bs} (hn : okN names) (hs : s.length ≤ 1000) : name_Guard names s = some (guardS names s) := by
  unfold name_Guard guardS
  rw [ixs_eq hn hs, bind_in, bif_ltZ]
  unfold ixI
  cases h : names.findIdx? (fun x => conf x s) with
  | none => rfl
  | some i =>
    obtain ⟨hi, _⟩ := fi_some h
    dsimp only
    rw [if_neg (by omega), idx_nat hi, bind_in, List.getElem?_eq_getElem hi]; rfl
theorem rguard_eq {names : List Bs} {s : Bs} (hn : okN names) (hs : s.length ≤ 1000) : ladingref10_Guard names s = some (guardS names s) := by
  have h1 := hn.1
  unfold ladingref10_Guard guardS
  rw [rskel_eq (by unfold Mx; omega), bind_in]
  have := loop_if (body := fun x => ladingref10_Guard.b1 names (skel s) x) names (fun _ x => conf x s) (fun _ x => (x, true)) ([], false) (fun k hk => ?_) ?_
  · rw [this, scan_find (fun x => conf x s), fi_find]
    cases h : names.findIdx? (fun x => conf x s) with
    | none => rfl
    | some i =>
      obtain ⟨hi, _⟩ := fi_some h
      simp [List.getElem?_eq_getElem hi]
  · dsimp only [ladingref10_Guard.b1]
    rw [bif_ltZ, if_pos (by omega), idx_nat hk, bind_in, rskel_eq (okN_at hn hk), bind_in, bind_in, z64_succ (by omega)]
    unfold conf
    cases (decide (skel names[k] = skel s)) <;> rfl
  · dsimp only [ladingref10_Guard.b1]
    rw [bif_ltZ, if_neg (by omega)]
theorem guard_2 (names : List Bs) (s : Bs) : (guardS names s).2 = names.any (fun x => conf x s) := by
  rw [← fi_any]
  unfold guardS
  cases names.findIdx? (fun x => conf x s) <;> rfl
theorem guard_1 {names : List Bs} {s : Bs} (h : (guardS names s).2 = true) : (guardS names s).1 ∈ names ∧ conf (guardS names s).1 s = true := by
  unfold guardS at *
  cases hf : names.findIdx? (fun x => conf x s) with
  | none => rw [hf] at h; cases h
  | some i =>
    obtain ⟨hi, hp⟩ := fi_some hf
    simp only [List.getElem?_eq_getElem hi, Option.getD_some]
    exact ⟨List.getElem_mem hi, hp⟩
/-! ### what is held -/
def heldP (s : Bs) (now : Int) (h : GHold) : Bool := decide (now < h.2) && conf h.1 s
def heldS (holds : List GHold) (s : Bs) (now : Int) : Bool := holds.any (heldP s now)
theorem held_eq {holds : List GHold} {s : Bs} {now : Int} (hn : okH holds) (hs : s.length ≤ 1000) : name_Held holds s now = some (heldS holds s now) := by
  have h1 := hn.1
  have : slices_IndexFunc_api_Hold_api_Hold_v2 holds now s = some (ixI (heldP s now) holds) := by
    unfold slices_IndexFunc_api_Hold_api_Hold_v2
    rw [← ixGetD]
    refine loop_if (body := fun x => slices_IndexFunc_api_Hold_api_Hold_v2.b1 holds now s x) holds (fun _ x => heldP s now x) (fun k _ => (k : Int)) (-1) (fun k hk => ?_) ?_
    · dsimp only [slices_IndexFunc_api_Hold_api_Hold_v2.b1]
      rw [bif_ltZ, if_pos (by omega), idx_nat hk, bind_in]
      unfold name_Held_1 heldP
      rw [bif_ltZ, conf_eq (okH_at hn hk) (by unfold Mx; omega), bind_in, z64_succ (by omega)]
      by_cases h : now < holds[k].2
      · rw [if_pos h, decide_eq_true h, bind_in]
        cases conf holds[k].1 s <;> rfl
      · rw [if_neg h, decide_eq_false h, bind_in]; rfl
    · dsimp only [slices_IndexFunc_api_Hold_api_Hold_v2.b1]
      rw [bif_ltZ, if_neg (by omega)]
  unfold name_Held slices_ContainsFunc_api_Hold_api_Hold
  rw [this, bind_in, bind_in, ixI_neg]; rfl
theorem rheld_eq {holds : List GHold} {s : Bs} {now : Int} (hn : okH holds) (hs : s.length ≤ 1000) : ladingref10_Held holds s now = some (heldS holds s now) := by
  have h1 := hn.1
  unfold ladingref10_Held
  rw [rskel_eq (by unfold Mx; omega), bind_in]
  have := loop_if (body := fun x => ladingref10_Held.b1 holds now (skel s) x) holds (fun _ x => heldP s now x) (fun _ x => true) false (fun k hk => ?_) ?_
  · rw [this, scan_any (heldP s now)]
    unfold heldS
    cases holds.any (heldP s now) <;> rfl
  · dsimp only [ladingref10_Held.b1]
    rw [bif_ltZ, if_pos (by omega), idx_nat hk, bind_in, bif_ltZ, bind_in, rskel_eq (okH_at hn hk), bind_in]
    unfold heldP conf ladingref10_Held.j1
    rw [z64_succ (by omega)]
    by_cases h : now < holds[k].2
    · rw [if_pos h, decide_eq_true h, bind_in]
      cases (decide (skel holds[k].1 = skel s)) <;> rfl
    · rw [if_neg h, decide_eq_false h, bind_in]; rfl
  · dsimp only [ladingref10_Held.b1]
    rw [bif_ltZ, if_neg (by omega)]
/-! ### Free -/
def freeS (names : List Bs) (holds : List GHold) (s : Bs) (now : Int) : Int :=
  if rightB s = false then 12 else if s ∈ names then 5 else if names.any (fun x => conf x s) = true then 27 else if heldS holds s now = true then 31 else 0
theorem contains_eq {names : List Bs} {s : Bs} (hn : okN names) : slices_Contains_string_string names s = some (decide (s ∈ names)) := by
  have h1 := hn.1
  have : slices_Index_string_string names s = some (ixI (fun x => decide (s = x)) names) := by
    unfold slices_Index_string_string
    rw [← ixGetD]
    refine loop_if (body := fun x => slices_Index_string_string.b1 names s x) names (fun _ x => decide (s = x)) (fun k _ => (k : Int)) (-1) (fun k hk => ?_) ?_
    · dsimp only [slices_Index_string_string.b1]
      rw [bif_ltZ, if_pos (by omega), idx_nat hk, bind_in, z64_succ (by omega)]
      by_cases h : s = names[k] <;> simp [h, bind_in]
    · dsimp only [slices_Index_string_string.b1]
      rw [bif_ltZ, if_neg (by omega)]
  unfold slices_Contains_string_string
  rw [this, bind_in, ixI_neg]
  congr 1
  by_cases h : s ∈ names
  · rw [decide_eq_true h, List.any_eq_true]; exact ⟨s, h, by simp⟩
  · rw [decide_eq_false h, List.any_eq_false]; intro x hx; simp; intro e; exact h (e ▸ hx)
theorem free_eq {names : List Bs} {holds : List GHold} {s : Bs} {now : Int} (hn : okN names) (hh : okH holds) (hs : s.length ≤ 1000) : name_Free names holds s now = some (freeS names holds s now) := by
  unfold name_Free freeS
  rw [right_eq, bind_in, bif_not]
  cases rightB s with
  | false => rfl
  | true =>
    rw [cond_true, if_neg (by simp), contains_eq hn, bind_in, bif_dec]
    by_cases h : s ∈ names
    · rw [if_pos h, if_pos h]
    · rw [if_neg h, if_neg h, guard_eq hn hs, bind_in, guard_2, held_eq hh hs, bind_in]
      cases names.any (fun x => conf x s) <;> cases heldS holds s now <;> rfl
theorem rfree_eq {names : List Bs} {holds : List GHold} {s : Bs} {now : Int} (hn : okN names) (hh : okH holds) (hs : s.length ≤ 1000) : ladingref10_Free names holds s now = some (freeS names holds s now) := by
  have h1 := hn.1
  unfold ladingref10_Free freeS
  rw [rright_eq, bind_in, bif_not]
  cases rightB s with
  | false => rfl
  | true =>
    rw [cond_true, if_neg (by simp)]
    have : loopF (fun x => ladingref10_Free.b1 names s x) 0 = some ((scan (fun k x => if (decide (x = s)) = true then some (Sum.inr 5) else none) 0 names).getD (.inl ())) :=
      loop_if (body := fun x => ladingref10_Free.b1 names s x) names (fun _ x => decide (x = s)) (fun _ _ => (.inr 5 : Unit ⊕ Int)) (.inl ()) (fun k hk => by
        dsimp only [ladingref10_Free.b1]
        rw [bif_ltZ, if_pos (by omega), idx_nat hk, bind_in, z64_succ (by omega)]
        by_cases h : names[k] = s <;> simp [h, bind_in]) (by
        dsimp only [ladingref10_Free.b1]
        rw [bif_ltZ, if_neg (by omega)])
    rw [this, bind_in, scan_any (fun x => decide (x = s))]
    by_cases h : s ∈ names
    · rw [if_pos h, if_pos (List.any_eq_true.2 ⟨s, h, by simp⟩)]; rfl
    · rw [if_neg h, if_neg (by rw [Bool.not_eq_true, List.any_eq_false]; intro x hx; simp; intro e; exact h (e ▸ hx))]
      show ladingref10_Free.j1 names holds s now = _
      unfold ladingref10_Free.j1
      rw [rguard_eq hn hs, bind_in, guard_2, rheld_eq hh hs, bind_in]
      cases names.any (fun x => conf x s) <;> cases heldS holds s now <;> rfl
/-! ### Drop -/
def dropS (holds : List GHold) (s : Bs) (till : Int) : List GHold × Int :=
  if rightB s = false then ([], 12) else if till < 0 ∨ 1073741824 < till then ([], 1)
  else match holds.findIdx? (fun h => decide (h.1 = s)) with
    | none => (holds ++ [(s, till)], 0)
    | some i => (holds.set i (s, max ((holds[i]?.getD ([], 0)).2) till), 0)
theorem clone_eq {holds : List GHold} (hh : okH holds) : slices_Clone_api_Hold_api_Hold holds = some holds := by
  have h1 := hh.1
  unfold slices_Clone_api_Hold_api_Hold
  exact bothN_same (by rw [app_in (by simp; omega)]; simp [bind_in]) (fun e => by rw [e])
theorem drop_eq {holds : List GHold} {s : Bs} {till : Int} (hh : okH holds) : name_Drop holds s till = some (dropS holds s till) := by
  have h1 := hh.1
  unfold name_Drop dropS
  rw [right_eq, bind_in, bif_not]
  cases rightB s with
  | false => rfl
  | true =>
    rw [cond_true, if_neg (by simp)]
    simp only [ltZ_eq, bif_dec]
    have j1t : name_Drop.j1 holds s till true = some ([], 1) := rfl
    by_cases h0 : till < 0
    · rw [if_pos h0, if_pos (.inl h0), bind_in, j1t]
    · rw [if_neg h0, bind_in]
      by_cases h2 : 1073741824 < till
      · rw [decide_eq_true h2, if_pos (.inr h2), j1t]
      · rw [decide_eq_false h2, if_neg (by omega)]
        unfold name_Drop.j1
        rw [cond_false, clone_eq hh, bind_in]
        have : slices_IndexFunc_api_Hold_api_Hold holds s = some (ixI (fun h => decide (h.1 = s)) holds) := by
          unfold slices_IndexFunc_api_Hold_api_Hold
          rw [← ixGetD]
          refine loop_if (body := fun x => slices_IndexFunc_api_Hold_api_Hold.b1 holds s x) holds (fun _ h => decide (h.1 = s)) (fun k _ => (k : Int)) (-1) (fun k hk => ?_) ?_
          · dsimp only [slices_IndexFunc_api_Hold_api_Hold.b1]
            rw [bif_ltZ, if_pos (by omega), idx_nat hk, bind_in]
            unfold name_Drop_1
            rw [bind_in, z64_succ (by omega)]
            by_cases h : holds[k].1 = s <;> simp [h, bind_in]
          · dsimp only [slices_IndexFunc_api_Hold_api_Hold.b1]
            rw [bif_ltZ, if_neg (by omega)]
        rw [this, bind_in, bif_ltZ]
        unfold ixI
        cases hf : holds.findIdx? (fun h => decide (h.1 = s)) with
        | none =>
          dsimp only
          rw [if_pos (by omega), app_in (by simp; omega), bind_in]
        | some i =>
          obtain ⟨hi, hp⟩ := fi_some hf
          dsimp only
          rw [if_neg (by omega), idx_nat hi, bind_in, bind_in, bind_in, bind_in, Int.toNat_natCast, List.getElem?_eq_getElem hi, Option.getD_some, of_decide_eq_true hp]
theorem rdrop_eq {holds : List GHold} {s : Bs} {till : Int} (hh : okH holds) : ladingref10_Drop holds s till = some (dropS holds s till) := by
  have h1 := hh.1
  unfold ladingref10_Drop dropS
  rw [rright_eq, bind_in, bif_not]
  cases rightB s with
  | false => rfl
  | true =>
    rw [cond_true, if_neg (by simp)]
    simp only [ltZ_eq, bif_dec]
    have j1t : ladingref10_Drop.j1 holds s till true = some ([], 1) := rfl
    by_cases h0 : till < 0
    · rw [if_pos h0, if_pos (.inl h0), bind_in, j1t]
    · rw [if_neg h0, bind_in]
      by_cases h2 : 1073741824 < till
      · rw [decide_eq_true h2, if_pos (.inr h2), j1t]
      · rw [decide_eq_false h2, if_neg (by omega)]
        unfold ladingref10_Drop.j1
        rw [cond_false, app_in (by simp; omega), bind_in, List.nil_append]
        have := loop_if (body := fun x => ladingref10_Drop.b1 s till holds x) holds (fun _ h => decide (h.1 = s)) (fun k h => ((holds.set k (h.1, max h.2 till), 0) : List GHold × Int)) (holds ++ [(s, till)], 0) (fun k hk => ?_) ?_
        · rw [this]
          have key : ∀ (l : List GHold) (k : Nat), scan (fun k h => if (decide (h.1 = s)) = true then some ((holds.set k (h.1, max h.2 till), 0) : List GHold × Int) else none) k l = match l.findIdx? (fun h => decide (h.1 = s)) with
              | none => none
              | some i => some (holds.set (k + i) (s, max ((l[i]?.getD ([], 0)).2) till), 0) := by
            intro l
            induction l with
            | nil => intro k; rfl
            | cons x r ih =>
              intro k
              unfold scan
              rw [List.findIdx?_cons]
              by_cases h : x.1 = s
              · simp [h]
              · rw [decide_eq_false h]
                simp only [Bool.false_eq_true, if_false]
                rw [ih]
                cases r.findIdx? (fun h => decide (h.1 = s)) with
                | none => rfl
                | some i => simp [Nat.add_assoc, Nat.add_comm, Nat.add_left_comm]
          rw [key]
          cases holds.findIdx? (fun h => decide (h.1 = s)) with
          | none => rfl
          | some i => simp
        · dsimp only [ladingref10_Drop.b1]
          rw [bif_ltZ, if_pos (by omega), idx_nat hk, bind_in, bind_in, bind_in, bind_in, bind_in, bind_in, z64_succ (by omega), bif_dec]
          by_cases h : holds[k].1 = s <;> simp [h, bind_in]
        · dsimp only [ladingref10_Drop.b1]
          rw [bif_ltZ, if_neg (by omega), app_in (by simp; omega)]; rfl
theorem same_refl {l : List GHold} (h1 : l.length ≤ 1001) : ladingref10_Same l l = some true := by
  unfold ladingref10_Same
  rw [bif_not, bif_eqZ, if_pos rfl]
  have := loop_if (body := fun x => ladingref10_Same.b1 l l x) l (fun _ _ => false) (fun _ _ => false) true (fun k hk => ?_) ?_
  · rw [this, scan_none.2 (fun i hi => rfl)]; rfl
  · dsimp only [ladingref10_Same.b1]
    rw [bif_ltZ, if_pos (by omega), idx_nat hk, bind_in, bind_in, z64_succ (by omega), eqZ_eq]
    simp [bind_in]
  · dsimp only [ladingref10_Same.b1]
    rw [bif_ltZ, if_neg (by omega)]
theorem drop_len (holds : List GHold) (s : Bs) (till : Int) : (dropS holds s till).1.length ≤ holds.length + 1 := by
  unfold dropS
  split
  · simp
  · split
    · simp
    · split <;> simp
/-! ### bounds -/
theorem short_eq (l : List Bs) : ∃ b, ladinglaw10_short l = some b ∧ (b = true → l.length ≤ 40 ∧ ∀ x ∈ l, x.length ≤ 60) := by
  unfold ladinglaw10_short
  have hb : ∀ k : Nat, k ≤ l.length → k ≤ 41 → ladinglaw10_short.b1 l (k : Int) = if h : k < l.length ∧ k < 41 then some (if 60 < (l[k]'h.1).length then .inr false else .inl ((k + 1 : Nat) : Int)) else some (.inr (decide (l.length ≤ 40))) := by
    intro k hk h41
    have j1f : ladinglaw10_short.j1 l (k : Int) false = some (.inr (decide (l.length ≤ 40))) := by
      unfold ladinglaw10_short.j1
      rw [cond_false, leZ_eq]; congr 2; rw [decide_eq_decide]; omega
    dsimp only [ladinglaw10_short.b1]
    rw [bif_ltZ, ltZ_eq]
    by_cases h : k < l.length ∧ k < 41
    · rw [if_pos (by omega), dif_pos h, bind_in, decide_eq_true (by omega)]
      unfold ladinglaw10_short.j1
      rw [cond_true, idx_nat h.1, bind_in, bif_ltZ, z64_succ (by omega)]
      by_cases h6 : 60 < (l[k]'h.1).length
      · rw [if_pos (by omega), if_pos h6]
      · rw [if_neg (by omega), if_neg h6, bind_in]
    · rw [dif_neg h]
      by_cases h2 : k < l.length
      · rw [if_pos (by omega), bind_in, decide_eq_false (by omega), j1f]
      · rw [if_neg (by omega), bind_in, j1f]
  refine loopF_inv (fun k x => x = (k : Int) ∧ k ≤ l.length ∧ k ≤ 41 ∧ ∀ j (hj : j < l.length), j < k → l[j].length ≤ 60) (min l.length 41) ⟨rfl, by omega, by omega, fun j hj h => by omega⟩ (fun k hk x hx => ?_) (fun x hx => ?_)
  · obtain ⟨rfl, h1, h2, h3⟩ := hx
    rw [hb k h1 h2, dif_pos ⟨by omega, by omega⟩]
    by_cases h6 : 60 < (l[k]'(by omega)).length
    · rw [if_pos h6]; exact .inr ⟨false, rfl, by simp⟩
    · rw [if_neg h6]
      refine .inl ⟨_, rfl, rfl, by omega, by omega, fun j hj hjk => ?_⟩
      by_cases e : j = k
      · subst e; omega
      · exact h3 j hj (by omega)
  · obtain ⟨rfl, h1, h2, h3⟩ := hx
    rw [hb _ h1 h2, dif_neg (by omega)]
    refine ⟨_, rfl, fun h => ?_⟩
    have h4 := of_decide_eq_true h
    refine ⟨h4, fun x hx => ?_⟩
    obtain ⟨i, hi, rfl⟩ := List.mem_iff_getElem.1 hx
    exact h3 i hi (by omega)
theorem few_eq (l : List GHold) : ∃ b, ladinglaw10_few l = some b ∧ (b = true → l.length ≤ 40 ∧ ∀ x ∈ l, x.1.length ≤ 60) := by
  unfold ladinglaw10_few
  have hb : ∀ k : Nat, k ≤ l.length → k ≤ 41 → ladinglaw10_few.b1 l (k : Int) = if h : k < l.length ∧ k < 41 then some (if 60 < (l[k]'h.1).1.length then .inr false else .inl ((k + 1 : Nat) : Int)) else some (.inr (decide (l.length ≤ 40))) := by
    intro k hk h41
    have j1f : ladinglaw10_few.j1 l (k : Int) false = some (.inr (decide (l.length ≤ 40))) := by
      unfold ladinglaw10_few.j1
      rw [cond_false, leZ_eq]; congr 2; rw [decide_eq_decide]; omega
    dsimp only [ladinglaw10_few.b1]
    rw [bif_ltZ, ltZ_eq]
    by_cases h : k < l.length ∧ k < 41
    · rw [if_pos (by omega), dif_pos h, bind_in, decide_eq_true (by omega)]
      unfold ladinglaw10_few.j1
      rw [cond_true, idx_nat h.1, bind_in, bif_ltZ, z64_succ (by omega)]
      by_cases h6 : 60 < (l[k]'h.1).1.length
      · rw [if_pos (by omega), if_pos h6]
      · rw [if_neg (by omega), if_neg h6, bind_in]
    · rw [dif_neg h]
      by_cases h2 : k < l.length
      · rw [if_pos (by omega), bind_in, decide_eq_false (by omega), j1f]
      · rw [if_neg (by omega), bind_in, j1f]
  refine loopF_inv (fun k x => x = (k : Int) ∧ k ≤ l.length ∧ k ≤ 41 ∧ ∀ j (hj : j < l.length), j < k → l[j].1.length ≤ 60) (min l.length 41) ⟨rfl, by omega, by omega, fun j hj h => by omega⟩ (fun k hk x hx => ?_) (fun x hx => ?_)
  · obtain ⟨rfl, h1, h2, h3⟩ := hx
    rw [hb k h1 h2, dif_pos ⟨by omega, by omega⟩]
    by_cases h6 : 60 < (l[k]'(by omega)).1.length
    · rw [if_pos h6]; exact .inr ⟨false, rfl, by simp⟩
    · rw [if_neg h6]
      refine .inl ⟨_, rfl, rfl, by omega, by omega, fun j hj hjk => ?_⟩
      by_cases e : j = k
      · subst e; omega
      · exact h3 j hj (by omega)
  · obtain ⟨rfl, h1, h2, h3⟩ := hx
    rw [hb _ h1 h2, dif_neg (by omega)]
    refine ⟨_, rfl, fun h => ?_⟩
    have h4 := of_decide_eq_true h
    refine ⟨h4, fun x hx => ?_⟩
    obtain ⟨i, hi, rfl⟩ := List.mem_iff_getElem.1 hx
    exact h3 i hi (by omega)
theorem okN_of {l : List Bs} (h : l.length ≤ 40 ∧ ∀ x ∈ l, x.length ≤ 60) : okN l := ⟨by omega, fun x hx => by have := h.2 x hx; omega⟩
theorem okH_of {l : List GHold} (h : l.length ≤ 40 ∧ ∀ x ∈ l, x.1.length ≤ 60) : okH l := ⟨by omega, fun x hx => by have := h.2 x hx; omega⟩
theorem small_eq : ladinglaw10_small = some true := by kernel_rfl
end Go.Proofs.YtkhlbajdoaokeaaDoor
