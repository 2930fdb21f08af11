/-
  Layer 10 (name): what Right computes, in plain words.
-/
import Derived.Test.YtkhlbajdoaokeaaDoorN1
namespace Go.Proofs.YtkhlbajdoaokeaaDoor
open Go.Lad
set_option linter.unusedVariables false
set_option linter.unusedSimpArgs false

theorem loop_if {α β : Type} {body : Int → Option (Int ⊕ β)} (l : List α) (c : Nat → α → Bool) (b : Nat → α → β) (e : β)
    (h : ∀ k (hk : k < l.length), body (k : Int) = some (if c k l[k] = true then .inr (b k l[k]) else .inl ((k + 1 : Nat) : Int)))
    (hd : body (l.length : Int) = some (.inr e)) (hn : l.length < 1606938044258990275541962092341162602522202993782792835301376 := by omega) :
    loopF body 0 = some ((scan (fun k x => if c k x = true then some (b k x) else none) 0 l).getD e) :=
  loop_scan l _ e (fun k hk => by rw [h k hk]; by_cases hc : c k l[k] = true <;> simp [hc]) hd hn
/-! ### the parts of a name -/
def pieces : Bs → List Bs
  | [] => [[]]
  | c :: r => if c = 45 then [] :: pieces r else (c :: (pieces r).headD []) :: (pieces r).tail
theorem pieces_ne (s : Bs) : pieces s ≠ [] := by
  cases s with
  | nil => simp [pieces]
  | cons c r => unfold pieces; split <;> simp
theorem pieces_split : ∀ s : Bs, Lib.split s [45] = pieces s
  | [] => rfl
  | c :: r => by
    have ih := pieces_split r
    unfold Lib.split at *
    by_cases h : c = 45
    · subst h
      have hix : Lib.index ((45 : UInt8) :: r) [45] = 0 := by rw [Lib.index]; simp [List.isPrefixOf]
      rw [Lib.count_cons_eq, Nat.add_comm, Lib.splitK, hix]
      show (([] : Bs) :: Lib.splitK [45] 0 (Lib.count r [45]) r) = _
      rw [ih]; simp [pieces]
    · have hp : ([45] : List UInt8).isPrefixOf (c :: r) = false := by simp [List.isPrefixOf, Ne.symm h]
      have hix : Lib.index (c :: r) [45] = if Lib.index r [45] == -1 then -1 else Lib.index r [45] + 1 := by rw [Lib.index, hp]; simp
      rw [Lib.count_cons_ne c 45 r h]
      have e : pieces (c :: r) = (c :: (pieces r).headD []) :: (pieces r).tail := by rw [pieces, if_neg h]
      rw [e, ← ih]
      cases hn : Lib.count r [45] with
      | zero => rfl
      | succ k =>
        have hm : ¬ Lib.index r [45] = -1 := fun e => by rw [Lib.count_miss e] at hn; cases hn
        have hge := Lib.index_ge r [45]
        obtain ⟨j, hj⟩ : ∃ j : Nat, Lib.index r [45] = j := ⟨(Lib.index r [45]).toNat, by omega⟩
        have e1 : (Lib.index r [45] == -1) = false := beq_eq_false_iff_ne.2 hm
        rw [Lib.splitK, Lib.splitK, hix, e1]
        simp only [Bool.false_eq_true, if_false, hj]
        have e2 : (((j : Int) + 1) == -1) = false := beq_eq_false_iff_ne.2 (by omega)
        rw [e2]
        simp only [Bool.false_eq_true, if_false]
        have e3 : ((j : Int) + 1).toNat = j + 1 := by omega
        have e4 : ((j : Int)).toNat = j := by omega
        rw [e3, e4]
        simp
/-- right, piece by piece -/
def chk : Bool → Bs → Bool
  | d, [] => !d
  | d, c :: r => if c = 45 then !d && chk true r else isA c && chk false r
def okP (p : Bs) : Bool := decide (p ≠ []) && p.all isA
theorem chk_pieces : ∀ (s : Bs), (∀ d, chk d s = ((!d || decide ((pieces s).headD [] ≠ [])) && ((pieces s).headD []).all isA && (pieces s).tail.all okP))
  | [], d => by cases d <;> simp [chk, pieces]
  | c :: r, d => by
    have ih := chk_pieces r
    unfold chk pieces
    by_cases h : c = 45
    · rw [if_pos h, if_pos h, ih]
      have hne := pieces_ne r
      cases hp : pieces r with
      | nil => exact absurd hp hne
      | cons p ps => cases d <;> simp [okP, Bool.and_assoc]
    · rw [if_neg h, if_neg h, ih]
      simp [Bool.and_assoc]
def rightB (s : Bs) : Bool := decide (s.length ≤ 20) && (headP isL s && chk false s)
theorem notA (c : UInt8) : isA c = false ↔ ((c.toNat < 97 ∨ 122 < c.toNat) ∧ (c.toNat < 48 ∨ 57 < c.toNat)) := by
  unfold isA isL isD
  rw [Bool.or_eq_false_iff, decide_eq_false_iff_not, decide_eq_false_iff_not]
  omega
theorem inner_eq (v3 : Int) (p : Bs) (hv : 0 ≤ v3 ∧ v3 ≤ 1000000000000) (hp : p.length ≤ Mx) :
    loopF (fun x => name_Right.b1 v3 p x) 0 = some (if p.all isA = true then .inl (v3 + 1) else .inr false) := by
  unfold Mx at hp
  have hl : (bytesT p).length = p.length := by unfold bytesT; simp
  have := loop_if (body := fun x => name_Right.b1 v3 p x) p (fun _ c => !isA c) (fun _ _ => Sum.inr false) (.inl (v3 + 1)) (fun k hk => ?_) ?_
  · rw [this, scan_any (fun c => !isA c)]
    congr 1
    by_cases h : p.all isA = true
    · have : p.any (fun c => !isA c) = false := by rw [List.any_eq_false]; intro x hx; rw [List.all_eq_true] at h; simp [h x hx]
      rw [this, if_pos h]; rfl
    · have : p.any (fun c => !isA c) = true := by
        rw [Bool.not_eq_true, List.all_eq_false] at h
        obtain ⟨x, hx, h⟩ := h
        exact List.any_eq_true.2 ⟨x, hx, by simp at h; simp [h]⟩
      rw [this, if_neg h, if_pos rfl]; rfl
  · have e : idx (bytesT p) (k : Int) = some ((p[k].toNat : Nat) : Int) := by
      rw [idx_nat (by rw [hl]; exact hk)]; unfold bytesT; simp
    have hz := z64_succ (show k + 1 ≤ 9223372036854775807 by omega)
    have key : ∀ b : Bool, b = !isA p[k] → name_Right.j1 (k : Int) b = some (if (!isA p[k]) = true then .inr (.inr false) else .inl ((k + 1 : Nat) : Int)) := by
      intro b hb
      unfold name_Right.j1
      cases hA : isA p[k] with
      | true => rw [hA] at hb; subst hb; rw [Bool.not_true, cond_false, hz]; rfl
      | false => rw [hA] at hb; subst hb; rfl
    have hA := notA p[k]
    have hcase : isA p[k] = true ∨ isA p[k] = false := by cases isA p[k] <;> simp
    dsimp only [name_Right.b1]
    rw [hl, bif_ltZ, if_pos (by omega), e, bind_in]
    simp only [ltZ_eq, bif_dec]
    by_cases h1 : p[k].toNat < 97
    · rw [if_pos (by omega)]
      by_cases h2 : p[k].toNat < 48
      · rw [if_pos (by omega), bind_in]; exact key true (by simp [hA.2 (by omega)])
      · rw [if_neg (by omega), bind_in]
        by_cases h3 : 57 < p[k].toNat
        · rw [decide_eq_true (by omega)]; exact key true (by simp [hA.2 (by omega)])
        · rcases hcase with h | h
          · rw [decide_eq_false (by omega)]; exact key false (by simp [h])
          · have := hA.1 h; omega
    · rw [if_neg (by omega)]
      by_cases h4 : 122 < p[k].toNat
      · rw [if_pos (by omega), if_neg (by omega), bind_in]
        rw [decide_eq_true (by omega)]; exact key true (by simp [hA.2 (by omega)])
      · rw [if_neg (by omega), bind_in]
        rcases hcase with h | h
        · exact key false (by simp [h])
        · have := hA.1 h; omega
  · show name_Right.b1 v3 p (p.length : Int) = _
    unfold name_Right.b1
    rw [hl, bif_ltZ, if_neg (by omega), z64_i (by omega), bind_in]; rfl
theorem letter_no (c : UInt8) : isL c = false ↔ (c.toNat < 97 ∨ 122 < c.toNat) := by
  unfold isL
  rw [decide_eq_false_iff_not]
  omega
theorem right_eq (s : Bs) : name_Right s = some (rightB s) := by
  unfold name_Right rightB
  rw [bif_ltZ]
  by_cases h20 : s.length ≤ 20
  · rw [if_neg (by omega), decide_eq_true h20, Bool.true_and]
    have hsp : strings_Split s ([45] : Bs) = some (pieces s) := by
      unfold strings_Split splitF
      rw [show Nat.ble s.length 1000000000 = true by rw [Nat.ble_eq]; omega, pieces_split]; rfl
    rw [hsp, bind_in]
    have hlen : ∀ s : Bs, (pieces s).length ≤ s.length + 1 ∧ ∀ p ∈ pieces s, p.length ≤ s.length := by
      intro s
      induction s with
      | nil => simp [pieces]
      | cons c r ih =>
        unfold pieces
        have hne := pieces_ne r
        cases hp : pieces r with
        | nil => exact absurd hp hne
        | cons p ps =>
          rw [hp] at ih
          obtain ⟨i1, i2⟩ := ih
          simp only [List.length_cons] at *
          split
          · exact ⟨by simp; omega, fun q hq => by
              rcases List.mem_cons.1 hq with rfl | hq
              · simp
              · have := i2 q hq; omega⟩
          · refine ⟨by simp; omega, fun q hq => ?_⟩
            simp only [List.headD_cons, List.tail_cons] at hq
            rcases List.mem_cons.1 hq with rfl | hq
            · have := i2 p List.mem_cons_self; simp; omega
            · have := i2 q (List.mem_cons_of_mem _ hq); omega
    obtain ⟨l1, l2⟩ := hlen s
    have := loop_if (body := fun x => name_Right.b2 (pieces s) x) (pieces s) (fun k p => decide (p = []) || (decide (k = 0) && !headP isL p) || !p.all isA) (fun _ _ => false) true (fun k hk => ?_) ?_
    · rw [this]
      congr 1
      have tail : ∀ (l : List Bs) (k : Nat), (scan (fun k p => if (decide (p = []) || (decide (k = 0) && !headP isL p) || !p.all isA) = true then some false else none) (k + 1) l).getD true = l.all okP := by
        intro l
        induction l with
        | nil => intro k; rfl
        | cons p ps ih =>
          intro k
          unfold scan
          rw [show (decide (k + 1 = 0)) = false from by simp, Bool.false_and, Bool.or_false, List.all_cons]
          rw [show okP p = (decide (p ≠ []) && p.all isA) from rfl]
          by_cases hp : p = []
          · subst hp; rfl
          · rw [decide_eq_false hp, Bool.false_or, decide_eq_true hp, Bool.true_and]
            cases p.all isA with
            | true => simpa using ih (k + 1)
            | false => simp
      have hc := chk_pieces s false
      have hne := pieces_ne s
      cases hp : pieces s with
      | nil => exact absurd hp hne
      | cons p ps =>
        rw [hp] at hc
        unfold scan
        rw [hc]
        simp only [List.headD_cons, List.tail_cons, Bool.not_false, Bool.true_or, Bool.true_and, decide_true]
        have hhead : (decide (p = []) || !headP isL p) = !headP isL s := by
          cases s with
          | nil => simp [pieces] at hp; obtain ⟨rfl, rfl⟩ := hp; rfl
          | cons c r =>
            unfold pieces at hp
            by_cases h : c = 45
            · rw [if_pos h] at hp
              injection hp with h1 h2
              subst h1 h
              rfl
            · rw [if_neg h] at hp
              injection hp with h1 h2
              subst h1
              simp [headP]
        rw [hhead]
        cases headP isL s with
        | false => rfl
        | true =>
          cases p.all isA with
          | true => simpa using tail ps 0
          | false => rfl
    · have hz := z64_succ (show k + 1 ≤ 9223372036854775807 by omega)
      have hk' : k ≤ 21 := by omega
      have hpl := l2 (pieces s)[k] (List.getElem_mem hk)
      have hin := inner_eq (k : Int) (pieces s)[k] (by omega) (by unfold Mx; omega)
      dsimp only [name_Right.b2]
      rw [bif_ltZ, if_pos (by omega), idx_nat hk, bind_in]
      simp only [bif_dec, bif_eqZ, bif_ltZ]
      generalize (pieces s)[k] = p at *
      have j2t : name_Right.j2 (k : Int) p true = some (.inr false) := rfl
      have j2f : name_Right.j2 (k : Int) p false = some (if p.all isA = true then .inl ((k : Int) + 1) else .inr false) := hin
      cases p with
      | nil => rw [if_pos rfl, bind_in, j2t]; rfl
      | cons c r =>
        rw [if_neg (show ¬ (c :: r = ([] : Bs)) by simp), bAt_cons, bind_in, bind_in, ltZ_eq]
        rw [decide_eq_false (show ¬ (c :: r = ([] : Bs)) by simp), Bool.false_or]
        have hL := letter_no c
        have hcase : isL c = true ∨ isL c = false := by cases isL c <;> simp
        rw [show headP isL (c :: r) = isL c from rfl]
        by_cases h0 : k = 0
        · rw [if_pos (by omega), decide_eq_true h0, Bool.true_and]
          have jt : isL c = false → Option.bind (some true) (fun x => name_Right.j2 (k : Int) (c :: r) x) = some (if (!isL c || !(c :: r).all isA) = true then .inr false else .inl ((k + 1 : Nat) : Int)) := by
            intro h; rw [h, bind_in, j2t]; rfl
          by_cases h1 : c.toNat < 97
          · rw [if_pos (by omega)]; exact jt (hL.2 (by omega))
          · rw [if_neg (by omega)]
            by_cases h2 : 122 < c.toNat
            · rw [decide_eq_true (by omega)]; exact jt (hL.2 (by omega))
            · rw [decide_eq_false (by omega), bind_in, j2f]
              rcases hcase with h | h
              · rw [h, Bool.not_true, Bool.false_or]
                cases (c :: r).all isA <;> rfl
              · have := hL.1 h; omega
        · rw [if_neg (by omega), decide_eq_false h0, Bool.false_and, Bool.false_or, bind_in, j2f]
          cases (c :: r).all isA <;> rfl
    · show name_Right.b2 (pieces s) ((pieces s).length : Int) = _
      unfold name_Right.b2
      rw [bif_ltZ, if_neg (by omega)]
  · rw [if_pos (by omega), decide_eq_false h20]; rfl
/-! ### the reference -/
def R : Bool → Bs → Bool
  | _, [] => true
  | d, c :: r => if isL c = true then R false r else if c = 45 then (decide (r ≠ []) && !d) && R true r else isD c && R false r
theorem R_chk : ∀ (s : Bs) (d : Bool), (s ≠ [] ∨ d = false) → R d s = chk d s
  | [], d, h => by
    rcases h with h | h
    · exact absurd rfl h
    · subst h; rfl
  | c :: r, d, _ => by
    unfold R chk
    have h45 : isL 45 = false := rfl
    by_cases h : c = 45
    · subst h
      rw [h45, if_neg (by simp), if_pos rfl, if_pos rfl]
      by_cases hr : r = []
      · subst hr; cases d <;> rfl
      · rw [R_chk r true (.inl hr)]; simp [hr]
    · rw [if_neg h, if_neg h, R_chk r false (.inr rfl)]
      unfold isA
      cases isL c <;> simp
theorem rletter_eq (c : UInt8) : ladingref10_letter (c.toNat : Int) = some (isL c) := by
  unfold ladingref10_letter isL
  simp only [leZ_eq, bif_dec]
  by_cases h : 97 ≤ c.toNat
  · rw [if_pos (by omega)]; congr 1; rw [decide_eq_decide]; omega
  · rw [if_neg (by omega)]; congr 1; symm; rw [decide_eq_false_iff_not]; omega
def prev (s : Bs) (k : Nat) : Bool := decide (k ≠ 0 ∧ s[k - 1]? = some 45)
theorem rright_it (s : Bs) (hs : s.length ≤ 20) : ∀ (n k : Nat), s.length ≤ k + n → k ≤ s.length → iterM (fun x => ladingref10_Right.b1 s x) (n + 1) (k : Int) = some (if k = 0 ∧ headP isL s = false ∧ s ≠ [] then false else R (prev s k) (s.drop k)) := by
  have hend : ∀ n : Nat, iterM (fun x => ladingref10_Right.b1 s x) (n + 1) (s.length : Int) = some (if s.length = 0 ∧ headP isL s = false ∧ s ≠ [] then false else R (prev s s.length) (s.drop s.length)) := by
    intro n
    have e : ladingref10_Right.b1 s (s.length : Int) = some (.inr true) := by unfold ladingref10_Right.b1; rw [bif_ltZ, if_neg (by omega)]
    unfold iterM
    rw [e, if_neg (fun h => h.2.2 (List.length_eq_zero_iff.1 h.1)), List.drop_length]; rfl
  intro n
  induction n with
  | zero =>
    intro k h1 h2
    obtain rfl : k = s.length := by omega
    exact hend 0
  | succ n ih =>
    intro k h1 h2
    by_cases hk : k < s.length
    · have hz := z64_succ (show k + 1 ≤ 9223372036854775807 by omega)
      have hh : k = 0 → headP isL s = isL s[k] := by
        intro e; subst e
        cases s with
        | nil => simp at hk
        | cons c r => rfl
      have hsne : s ≠ [] := by intro e; subst e; simp at hk
      have hnext : iterM (fun x => ladingref10_Right.b1 s x) (n + 1) ((k + 1 : Nat) : Int) = some (R (decide (s[k] = 45)) (s.drop (k + 1))) := by
        rw [ih (k + 1) (by omega) (by omega), if_neg (by omega)]
        unfold prev
        rw [Nat.add_sub_cancel, List.getElem?_eq_getElem hk]
        simp
      have body : ∀ b : Bool, ladingref10_Right.b1 s (k : Int) = some (if b = true then .inr false else .inl ((k + 1 : Nat) : Int)) →
          iterM (fun x => ladingref10_Right.b1 s x) (n + 1 + 1) (k : Int) = some (if b = true then false else R (decide (s[k] = 45)) (s.drop (k + 1))) := by
        intro b hb
        unfold iterM
        rw [hb]
        cases b with
        | true => rfl
        | false => exact hnext
      rw [drop_cons hk]
      have e45 : ((s[k].toNat : Int) = 45) ↔ s[k] = 45 := c_eq s[k] 45
      have hdig : (bif (leZ 48 (s[k].toNat : Int)) then some (leZ (s[k].toNat : Int) 57) else some false : Option Bool) = some (isD s[k]) := by
        unfold isD
        simp only [leZ_eq, bif_dec]
        by_cases h : 48 ≤ s[k].toNat
        · rw [if_pos (by omega)]; congr 1; rw [decide_eq_decide]; omega
        · rw [if_neg (by omega)]; congr 1; symm; rw [decide_eq_false_iff_not]; omega
      have hb1 : ladingref10_Right.b1 s (k : Int) = ladingref10_Right.j3 s (k : Int) (s[k].toNat : Int) (isD s[k]) := by
        unfold ladingref10_Right.b1
        rw [bif_ltZ, if_pos (by omega), bAt_nat hk, bind_in, hdig, bind_in]
      rw [hb1] at body
      have hj2t : ladingref10_Right.j2 s (k : Int) (s[k].toNat : Int) true = some (.inr false) := rfl
      have hj2n : s[k] ≠ 45 → ladingref10_Right.j2 s (k : Int) (s[k].toNat : Int) false = some (.inl ((k + 1 : Nat) : Int)) := by
        intro h
        unfold ladingref10_Right.j2
        rw [cond_false, bif_eqZ, if_neg (fun e => h (e45.1 e)), bind_in]
        unfold ladingref10_Right.j1
        rw [cond_false, hz]; rfl
      unfold R
      unfold ladingref10_Right.j3 at body
      rw [rletter_eq, bind_in, bif_not] at body
      have h45 : isL 45 = false := rfl
      have d45 : isD 45 = false := rfl
      cases hL : isL s[k] with
      | true =>
        have hne : s[k] ≠ 45 := fun e => by rw [e, h45] at hL; cases hL
        rw [hL, cond_true, bind_in, hj2n hne] at body
        rw [body false rfl, if_pos rfl, if_neg (by simp), decide_eq_false hne, if_neg (fun h => by rw [hh h.1, hL] at h; simp at h)]
      | false =>
        rw [hL, cond_false, bif_eqZ] at body
        by_cases h0 : k = 0
        · rw [if_pos (by omega), bind_in, hj2t] at body
          rw [body true rfl, if_pos rfl, if_pos ⟨h0, by rw [hh h0, hL], hsne⟩]
        · rw [if_neg (by omega), bif_not] at body
          rw [if_neg (fun h => h0 h.1), if_neg (by simp)]
          by_cases hc : s[k] = 45
          · rw [hc, d45, cond_false, eqZ_eq, decide_eq_true (show (((45 : UInt8).toNat : Nat) : Int) = 45 from rfl), Bool.not_true, bind_in] at body
            rw [if_pos hc]
            unfold ladingref10_Right.j2 at body
            rw [cond_false, bif_eqZ, if_pos (show (((45 : UInt8).toNat : Nat) : Int) = 45 from rfl), z64_i (show -9223372036854775808 ≤ (s.length : Int) - 1 ∧ (s.length : Int) - 1 ≤ 9223372036854775807 by omega), bind_in, bif_eqZ] at body
            have hp : prev s k = decide (s[k - 1] = 45) := by
              unfold prev
              rw [List.getElem?_eq_getElem (by omega)]
              simp [h0]
            by_cases hl : k + 1 = s.length
            · rw [if_pos (by omega), bind_in] at body
              rw [body true rfl, List.drop_eq_nil_of_le (by omega)]; simp
            · have hdn : s.drop (k + 1) ≠ [] := by intro e; have := congrArg List.length e; simp at this; omega
              rw [if_neg (by omega), z64_pred (by omega) (by omega), bind_in, bAt_nat (show k - 1 < s.length by omega), bind_in, bind_in, eqZ_eq] at body
              have e45' : ((s[k - 1].toNat : Int) = 45) ↔ s[k - 1] = 45 := c_eq s[k - 1] 45
              unfold ladingref10_Right.j1 at body
              rw [hz, bind_in, bif_dec] at body
              rw [hp]
              by_cases hq : s[k - 1] = 45
              · rw [if_pos (e45'.2 hq)] at body
                rw [body true rfl]; simp [hq]
              · rw [if_neg (fun e => hq (e45'.1 e))] at body
                rw [body false rfl]; simp [hq, hdn]
          · rw [if_neg hc]
            cases hD : isD s[k] with
            | true =>
              rw [hD, cond_true, bind_in, hj2n hc] at body
              rw [body false rfl, decide_eq_false hc]; rfl
            | false =>
              rw [hD, cond_false, eqZ_eq, decide_eq_false (fun e => hc (e45.1 e)), Bool.not_false, bind_in, hj2t] at body
              rw [body true rfl]; rfl
    · obtain rfl : k = s.length := by omega
      exact hend (n + 1)
theorem rright_eq (s : Bs) : ladingref10_Right s = some (rightB s) := by
  unfold ladingref10_Right rightB ladingref10_Right.j4
  simp only [ltZ_eq, bif_dec]
  by_cases h0 : s = []
  · subst h0; rfl
  · have hp : 0 < s.length := List.length_pos_iff.2 h0
    rw [if_neg (by omega), bind_in, bif_dec]
    by_cases h20 : s.length ≤ 20
    · rw [if_neg (by omega), decide_eq_true h20, Bool.true_and]
      have := rright_it s h20 s.length 0 (by omega) (by omega)
      refine (loopF_of this (by omega)).trans ?_
      congr 1
      rw [List.drop_zero, show prev s 0 = false from rfl, R_chk s false (.inr rfl)]
      cases headP isL s with
      | true => simp
      | false => simp [h0]
    · rw [if_pos (by omega), decide_eq_false h20]; rfl
end Go.Proofs.YtkhlbajdoaokeaaDoor
