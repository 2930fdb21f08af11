/-
  Layer 10 (name): the laws NameTells, NameAlike, NameHolds, NameTurns in plain words.
-/
import Derived.Test.YtkhlbajdoaokeaaDoorN3
namespace Go.Proofs.YtkhlbajdoaokeaaDoor
open Go.Lad
set_option linter.unusedVariables false
set_option linter.unusedSimpArgs false

/-! ### NameTells -/
theorem tells_true (names : List Bs) (holds : List GHold) (s : Bs) (now till : Int) : ladinglaw10_NameTells names holds s now till = some true := by
  unfold ladinglaw10_NameTells
  rw [small_eq, bind_in]
  obtain ⟨b1, h1, h1'⟩ := short_eq names
  obtain ⟨b2, h2, h2'⟩ := few_eq holds
  have j3t : ladinglaw10_NameTells.j3 names holds s now till true true = some true := rfl
  rw [h1, bind_in]
  cases b1 with
  | false => exact j3t
  | true =>
    rw [Bool.not_true, cond_false, h2, bind_in]
    cases b2 with
    | false => exact j3t
    | true =>
      rw [Bool.not_true, cond_false, bind_in, ltZ_eq]
      by_cases hs : s.length ≤ 60
      · rw [decide_eq_false (by omega)]
        have hn := okN_of (h1' rfl)
        have hh := okH_of (h2' rfl)
        have hsl : s.length ≤ 1000 := by omega
        have hdl := drop_len holds s till
        have hhl := hh.1
        have hnl := hn.1
        unfold ladinglaw10_NameTells.j3
        rw [cond_false, guard_eq hn hsl, bind_in, rguard_eq hn hsl, bind_in, drop_eq hh, bind_in, rdrop_eq hh, bind_in]
        rw [same_refl (by omega), bind_in, right_eq, bind_in, rright_eq, bind_in, skel_eq (by unfold Mx; omega), bind_in, rskel_eq (by unfold Mx; omega), bind_in]
        simp only [eqZ_eq, decide_true, Bool.not_true, cond_false, beq_self_eq_true, bind_in]
        unfold ladinglaw10_NameTells.j2
        rw [cond_false]
        have : loopF (fun x => ladinglaw10_NameTells.b1 names s x) 0 = some ((scan (fun k x => if false = true then some (Sum.inr false) else none) 0 names).getD (.inl ())) :=
          loop_if (body := fun x => ladinglaw10_NameTells.b1 names s x) names (fun _ x => false) (fun _ _ => (.inr false : Unit ⊕ Bool)) (.inl ()) (fun k hk => by
            dsimp only [ladinglaw10_NameTells.b1]
            rw [bif_ltZ, if_pos (by omega), idx_nat hk, bind_in, conf_eq (okN_at hn hk) (by unfold Mx; omega), bind_in, bind_in, rconf_eq (okN_at hn hk) (by unfold Mx; omega), bind_in, z64_succ (by omega)]
            simp [bind_in]) (by
            dsimp only [ladinglaw10_NameTells.b1]
            rw [bif_ltZ, if_neg (by omega)])
        rw [this, scan_none.2 (fun i hi => rfl), bind_in]
        show ladinglaw10_NameTells.j1 names holds s now true = _
        unfold ladinglaw10_NameTells.j1
        rw [cond_true, held_eq hh hsl, bind_in, rheld_eq hh hsl, bind_in, free_eq hn hh hsl, bind_in, rfree_eq hn hh hsl, bind_in, eqZ_eq]
        simp
      · rw [decide_eq_true (by omega)]; exact j3t
/-! ### NameAlike -/
theorem skel_app (t : Bs) (ht : headP (fun d => decide (d = 110)) t = false) (ht2 : headP (fun d => decide (d = 118)) t = false) : ∀ (n : Nat) (a : Bs), a.length ≤ n → skel (a ++ t) = skel a ++ skel t
  | _, [], _ => rfl
  | 0, c :: r, h => by simp at h
  | n + 1, c :: r, h => by
    have hl := stepS_le (c :: r) (by simp)
    have hst : stepS (c :: r ++ t) = stepS (c :: r) := by
      rw [List.cons_append, stepS_cons, stepS_cons]
      cases r with
      | nil => rw [List.nil_append, ht, ht2]; rfl
      | cons d r => rfl
    rw [skel_step (s := c :: r ++ t) (by simp), hst, skel_step (s := c :: r) (by simp), List.drop_append_of_le_length hl.2.1, skel_app t ht ht2 n _ (by rw [List.length_drop]; omega), List.append_assoc]
theorem conf_mid (a b x y : Bs) (h1 : headP (fun d => decide (d = 110)) (x ++ b) = false) (h2 : headP (fun d => decide (d = 118)) (x ++ b) = false) (h3 : headP (fun d => decide (d = 110)) (y ++ b) = false) (h4 : headP (fun d => decide (d = 118)) (y ++ b) = false)
    (h : skel (x ++ b) = skel (y ++ b)) : conf ((a ++ x) ++ b) ((a ++ y) ++ b) = true := by
  unfold conf
  rw [List.append_assoc, List.append_assoc, skel_app _ h1 h2 _ a (Nat.le_refl _), skel_app _ h3 h4 _ a (Nat.le_refl _), h]
  simp
theorem conf_refl (a : Bs) : conf a a = true := by simp [conf]
theorem conf_symm (a b : Bs) : conf a b = conf b a := by unfold conf; rw [decide_eq_decide]; exact eq_comm
theorem alike_mid (a b : Bs) (k : Nat) (hk : k < 5) : conf ((a ++ ([([48] : Bs), ([49] : Bs), ([49] : Bs), ([105] : Bs), ([114, 110] : Bs)] : List Bs)[k]) ++ b) ((a ++ ([([111] : Bs), ([105] : Bs), ([108] : Bs), ([108] : Bs), ([109] : Bs)] : List Bs)[k]) ++ b) = true := by
  have st : ∀ (c : UInt8), ¬ c = 114 → ¬ c = 118 → skel (([c] : Bs) ++ b) = chS c ++ skel b := by
    intro c h1 h2
    rw [skel_step (s := [c] ++ b) (by simp), List.singleton_append, stepS_cons, if_neg (fun h => h1 h.1), if_neg (fun h => h2 h.1)]; rfl
  match k, hk with
  | 0, _ => exact conf_mid a b [48] [111] rfl rfl rfl rfl (by rw [st 48 (by decide) (by decide), st 111 (by decide) (by decide)]; rfl)
  | 1, _ => exact conf_mid a b [49] [105] rfl rfl rfl rfl (by rw [st 49 (by decide) (by decide), st 105 (by decide) (by decide)]; rfl)
  | 2, _ => exact conf_mid a b [49] [108] rfl rfl rfl rfl (by rw [st 49 (by decide) (by decide), st 108 (by decide) (by decide)]; rfl)
  | 3, _ => exact conf_mid a b [105] [108] rfl rfl rfl rfl (by rw [st 105 (by decide) (by decide), st 108 (by decide) (by decide)]; rfl)
  | 4, _ =>
    refine conf_mid a b [114, 110] [109] rfl rfl rfl rfl ?_
    rw [st 109 (by decide) (by decide), skel_step (s := [114, 110] ++ b) (by simp)]
    rfl
theorem alike_true (a b c : Bs) : ladinglaw10_NameAlike a b c = some true := by
  unfold ladinglaw10_NameAlike
  rw [small_eq, bind_in]
  simp only [ltZ_eq, bif_dec]
  have j2t : ladinglaw10_NameAlike.j2 a b c true true = some true := rfl
  by_cases ha : a.length ≤ 200
  · rw [if_neg (by omega)]
    by_cases hb : b.length ≤ 200
    · rw [if_neg (by omega), bind_in]
      by_cases hc : c.length ≤ 200
      · rw [decide_eq_false (by omega)]
        have ma : a.length + 1 ≤ Mx := by unfold Mx; omega
        have mb : b.length + 1 ≤ Mx := by unfold Mx; omega
        have mc : c.length + 1 ≤ Mx := by unfold Mx; omega
        unfold ladinglaw10_NameAlike.j2
        rw [cond_false, conf_eq ma ma, bind_in, conf_refl, cond_true, conf_eq ma mb, bind_in, conf_eq mb ma, bind_in, bind_in, conf_eq ma mc, bind_in, conf_eq mb mc, bind_in, ← conf_symm a b]
        have hone : (bif (conf a b == conf a b) then (bif !conf a b then some true else some (conf a c == conf b c)) else some false : Option Bool) = some true := by
          rw [beq_self_eq_true, cond_true]
          cases h : conf a b with
          | false => rfl
          | true =>
            have h := of_decide_eq_true h
            unfold conf
            rw [h]; simp
        rw [hone, bind_in]
        unfold ladinglaw10_NameAlike.j1
        have := loop_if (body := fun x => ladinglaw10_NameAlike.b1 a b true true x) ([([48] : Bs), ([49] : Bs), ([49] : Bs), ([105] : Bs), ([114, 110] : Bs)] : List Bs) (fun _ _ => false) (fun _ _ => false) true (fun k hk => ?_) ?_ (by decide)
        · rw [this, scan_none.2 (fun i hi => rfl)]; rfl
        · have hk5 : k < 5 := hk
          have l1 : ∀ x ∈ ([([48] : Bs), ([49] : Bs), ([49] : Bs), ([105] : Bs), ([114, 110] : Bs)] : List Bs), x.length ≤ 2 := by decide
          have l2 : ∀ x ∈ ([([111] : Bs), ([105] : Bs), ([108] : Bs), ([108] : Bs), ([109] : Bs)] : List Bs), x.length ≤ 2 := by decide
          have l1' := l1 _ (List.getElem_mem hk)
          have l2' := l2 _ (List.getElem_mem (show k < ([([111] : Bs), ([105] : Bs), ([108] : Bs), ([108] : Bs), ([109] : Bs)] : List Bs).length from hk5))
          dsimp only [ladinglaw10_NameAlike.b1]
          rw [bif_ltZ, if_pos (show (k : Int) < ((([([48] : Bs), ([49] : Bs), ([49] : Bs), ([105] : Bs), ([114, 110] : Bs)] : List Bs).length : Nat) : Int) from Int.ofNat_lt.2 hk), idx_nat hk, bind_in, cat_in (by omega), bind_in, cat_in (by rw [List.length_append]; omega), bind_in,
            idx_nat (l := ([([111] : Bs), ([105] : Bs), ([108] : Bs), ([108] : Bs), ([109] : Bs)] : List Bs)) hk5, bind_in, cat_in (by omega), bind_in, cat_in (by rw [List.length_append]; omega), bind_in,
            conf_eq (by rw [List.length_append, List.length_append]; unfold Mx; omega) (by rw [List.length_append, List.length_append]; unfold Mx; omega), bind_in, alike_mid a b k hk5, z64_succ (by omega)]
          rfl
        · rfl
      · rw [decide_eq_true (by omega)]; exact j2t
    · rw [if_pos (by omega)]; exact j2t
  · rw [if_pos (by omega)]; exact j2t
/-! ### NameHolds -/
theorem held_mono {holds : List GHold} {s : Bs} {now : Int} (h : heldS holds s now = true) : heldS holds s (now - 1) = true := by
  unfold heldS heldP at *
  obtain ⟨x, hx, hp⟩ := List.any_eq_true.1 h
  rw [Bool.and_eq_true, decide_eq_true_eq] at hp
  exact List.any_eq_true.2 ⟨x, hx, by rw [Bool.and_eq_true, decide_eq_true_eq]; exact ⟨by omega, hp.2⟩⟩
theorem drop_code (holds : List GHold) (s : Bs) (till : Int) : ((dropS holds s till).2 = 0) ↔ (rightB s = true ∧ 0 ≤ till ∧ till ≤ 1073741824) := by
  unfold dropS
  by_cases h : rightB s = false
  · rw [if_pos h]; simp [h]
  · rw [if_neg h]
    have h' : rightB s = true := by simpa using h
    by_cases h2 : till < 0 ∨ 1073741824 < till
    · rw [if_pos h2]
      constructor
      · intro e; simp at e
      · intro e; omega
    · rw [if_neg h2]
      constructor
      · intro _; exact ⟨h', by omega, by omega⟩
      · intro _; split <;> rfl
theorem drop_bad {holds : List GHold} {s : Bs} {till : Int} (h : ¬ (dropS holds s till).2 = 0) : (dropS holds s till).1 = [] := by
  unfold dropS at *
  split
  · rfl
  · rename_i h1
    rw [if_neg h1] at h
    split
    · rfl
    · rename_i h2
      rw [if_neg h2] at h
      exact absurd (by split <;> rfl) h
theorem drop_ok {holds : List GHold} {s : Bs} {till : Int} (h : (dropS holds s till).2 = 0) :
    (holds.length ≤ (dropS holds s till).1.length ∧ (dropS holds s till).1.length ≤ holds.length + 1) ∧ (∀ x ∈ (dropS holds s till).1, x.1 = s ∨ x ∈ holds) ∧
    (∃ u, (s, u) ∈ (dropS holds s till).1 ∧ till ≤ u) ∧ ∀ x ∈ holds, ∃ u, (x.1, u) ∈ (dropS holds s till).1 ∧ x.2 ≤ u := by
  have h' := (drop_code holds s till).1 h
  unfold dropS
  rw [if_neg (by rw [h'.1]; simp), if_neg (by omega)]
  cases hf : holds.findIdx? (fun h => decide (h.1 = s)) with
  | none =>
    dsimp only
    refine ⟨⟨by simp, by simp⟩, fun x hx => ?_, ⟨till, by simp, Int.le_refl _⟩, fun x hx => ⟨x.2, by simp [hx], Int.le_refl _⟩⟩
    rcases List.mem_append.1 hx with h | h
    · exact .inr h
    · rw [List.mem_singleton.1 h]; exact .inl rfl
  | some i =>
    obtain ⟨hi, hp⟩ := fi_some hf
    have hp := of_decide_eq_true hp
    dsimp only
    rw [List.getElem?_eq_getElem hi, Option.getD_some]
    have hm : (s, max holds[i].2 till) ∈ holds.set i (s, max holds[i].2 till) := List.mem_iff_getElem.2 ⟨i, by simpa using hi, by simp⟩
    refine ⟨⟨by simp, by simp⟩, fun x hx => ?_, ⟨_, hm, by omega⟩, fun x hx => ?_⟩
    · rcases List.mem_or_eq_of_mem_set hx with h | h
      · exact .inr h
      · rw [h]; exact .inl rfl
    · obtain ⟨j, hj, rfl⟩ := List.mem_iff_getElem.1 hx
      by_cases e : j = i
      · subst e
        exact ⟨_, by rw [hp]; exact hm, by omega⟩
      · exact ⟨holds[j].2, List.mem_iff_getElem.2 ⟨j, by simpa using hj, by rw [List.getElem_set_ne (Ne.symm e)]⟩, Int.le_refl _⟩
theorem held_keeps {l m : List GHold} {s : Bs} {now : Int} (h : ∀ x ∈ l, ∃ u, (x.1, u) ∈ m ∧ x.2 ≤ u) (hl : heldS l s now = true) : heldS m s now = true := by
  unfold heldS heldP at *
  obtain ⟨x, hx, hp⟩ := List.any_eq_true.1 hl
  rw [Bool.and_eq_true, decide_eq_true_eq] at hp
  obtain ⟨u, hu, hle⟩ := h x hx
  exact List.any_eq_true.2 ⟨_, hu, by rw [Bool.and_eq_true, decide_eq_true_eq]; exact ⟨by dsimp only; omega, hp.2⟩⟩
theorem held_new {m : List GHold} {a b : Bs} {now till : Int} (h : ∃ u, (a, u) ∈ m ∧ till ≤ u) (hc : conf a b = true) (hn : now < till) : heldS m b now = true := by
  unfold heldS heldP
  obtain ⟨u, hu, hle⟩ := h
  exact List.any_eq_true.2 ⟨_, hu, by rw [Bool.and_eq_true, decide_eq_true_eq]; exact ⟨by dsimp only; omega, hc⟩⟩
theorem okH_drop {holds : List GHold} {s : Bs} {till : Int} (h : holds.length ≤ 999 ∧ ∀ x ∈ holds, x.1.length ≤ 1000) (hs : s.length ≤ 1000) : okH (dropS holds s till).1 := by
  by_cases h0 : (dropS holds s till).2 = 0
  · have := drop_ok h0
    refine ⟨by omega, fun x hx => ?_⟩
    rcases this.2.1 x hx with e | e
    · rw [e]; exact hs
    · exact h.2 x e
  · rw [drop_bad h0]; exact okH_nil
theorem free_nil (holds : List GHold) (s : Bs) (now : Int) : freeS [] holds s now = if rightB s = false then 12 else if heldS holds s now = true then 31 else 0 := by
  unfold freeS
  simp
theorem holds_true (holds : List GHold) (a b : Bs) (now till : Int) (hnow : -9223372036854775808 ≤ now ∧ now ≤ 9223372036854775807) : ladinglaw10_NameHolds holds a b now till = some true := by
  unfold ladinglaw10_NameHolds
  rw [small_eq, bind_in]
  obtain ⟨b2, h2, h2'⟩ := few_eq holds
  have j4t : ladinglaw10_NameHolds.j4 holds a b now till true true = some true := rfl
  rw [h2, bind_in]
  cases b2 with
  | false => exact j4t
  | true =>
    rw [Bool.not_true, cond_false]
    simp only [ltZ_eq, bif_dec]
    by_cases ha : a.length ≤ 60
    · rw [if_neg (by omega), bind_in]
      by_cases hb : b.length ≤ 60
      · rw [decide_eq_false (by omega)]
        have hh0 := h2' rfl
        have hh := okH_of hh0
        have la : a.length ≤ 1000 := by omega
        have lb : b.length ≤ 1000 := by omega
        have ma : a.length + 1 ≤ Mx := by unfold Mx; omega
        have mb : b.length + 1 ≤ Mx := by unfold Mx; omega
        have hd : okH (dropS holds a till).1 := okH_drop ⟨by omega, fun x hx => by have := hh0.2 x hx; omega⟩ la
        have j3 : ladinglaw10_NameHolds.j3 holds a b now till true false = some true := by
          unfold ladinglaw10_NameHolds.j3
          rw [cond_false, drop_eq hh, bind_in, right_eq, bind_in]
          have hcode := drop_code holds a till
          have hfalse : (bif rightB a then (bif (leZ 0 till) then some (!((eqZ (dropS holds a till).2 0) == (leZ till 1073741824))) else some (!((eqZ (dropS holds a till).2 0) == false))) else some (!((eqZ (dropS holds a till).2 0) == false)) : Option Bool) = some false := by
            simp only [leZ_eq, eqZ_eq, bif_dec]
            cases hr : rightB a with
            | false =>
              rw [cond_false, decide_eq_false (fun e => by have := (hcode.1 e).1; rw [hr] at this; cases this)]; rfl
            | true =>
              rw [hr] at hcode
              rw [cond_true]
              by_cases h0 : 0 ≤ till
              · rw [if_pos h0]
                by_cases h1 : till ≤ 1073741824
                · rw [decide_eq_true (hcode.2 ⟨rfl, h0, h1⟩), decide_eq_true h1]; rfl
                · rw [decide_eq_false (fun e => h1 (hcode.1 e).2.2), decide_eq_false h1]; rfl
              · rw [if_neg h0, decide_eq_false (fun e => h0 (hcode.1 e).2.1)]; rfl
          rw [hfalse, bind_in]
          unfold ladinglaw10_NameHolds.j2
          rw [cond_false, bif_not, bif_eqZ, cond_true, bif_eqZ, right_eq, bind_in]
          by_cases h0 : (dropS holds a till).2 = 0
          · rw [if_pos h0]
            obtain ⟨⟨k1, k2⟩, k3, k4, k5⟩ := drop_ok h0
            rw [held_eq hh lb, bind_in, held_eq hd lb, bind_in, conf_eq ma mb, bind_in, bind_in]
            have j1 : ladinglaw10_NameHolds.j1 holds b now true (dropS holds a till) false = some true := by
              unfold ladinglaw10_NameHolds.j1
              rw [cond_false, free_eq okN_nil hd lb, bind_in, cond_true, right_eq, bind_in, held_eq hd lb, bind_in, free_nil, z64_i (by have := hh.1; omega), bind_in, bif_leZ, if_pos (show (holds.length : Int) ≤ ((dropS holds a till).1.length : Int) by omega), leZ_eq, decide_eq_true (show ((dropS holds a till).1.length : Int) ≤ (holds.length : Int) + 1 by omega)]
              simp only [eqZ_eq]
              cases rightB b with
              | false => rfl
              | true => cases heldS (dropS holds a till).1 b now <;> rfl
            have hx : (bif conf a b then (bif ltZ now till then some (!heldS (dropS holds a till).1 b now) else some false) else some false : Option Bool) = some false := by
              rw [bif_ltZ]
              cases hc : conf a b with
              | false => rfl
              | true =>
                rw [cond_true]
                by_cases hl : now < till
                · rw [if_pos hl, held_new k4 hc hl]; rfl
                · rw [if_neg hl]
            rw [hx]
            cases hb1 : heldS holds b now with
            | false => exact j1
            | true => rw [cond_true, held_keeps k5 hb1]; exact j1
          · rw [if_neg h0, drop_bad h0, if_pos (show ((([] : List GHold).length : Nat) : Int) = 0 from rfl), free_eq okN_nil okH_nil la, bind_in, free_nil, eqZ_eq]
            cases rightB a <;> rfl
        unfold ladinglaw10_NameHolds.j4
        rw [cond_false, held_eq hh lb, bind_in]
        cases hb1 : heldS holds b now with
        | false => exact j3
        | true =>
          rw [cond_true, bif_ltZ]
          by_cases hl : -4611686018427387904 < now
          · rw [if_pos hl, z64_i (by omega), bind_in, held_eq hh lb, bind_in, held_mono hb1]; exact j3
          · rw [if_neg hl]; exact j3
      · rw [decide_eq_true (by omega)]; exact j4t
    · rw [if_pos (by omega)]; exact j4t
/-! ### NameTurns -/
theorem turns_free {l m : List Bs} (h : ∀ x, x ∈ l ↔ x ∈ m) (holds : List GHold) (s : Bs) (now : Int) : freeS l holds s now = freeS m holds s now := by
  have ha : l.any (fun x => conf x s) = m.any (fun x => conf x s) := by
    rw [Bool.eq_iff_iff, List.any_eq_true, List.any_eq_true]
    constructor
    · rintro ⟨x, hx, hp⟩; exact ⟨x, (h x).1 hx, hp⟩
    · rintro ⟨x, hx, hp⟩; exact ⟨x, (h x).2 hx, hp⟩
  unfold freeS
  rw [ha]
  by_cases hs : s ∈ l
  · rw [if_pos hs, if_pos ((h s).1 hs)]
  · rw [if_neg hs, if_neg (fun e => hs ((h s).2 e))]
theorem turns_true (names : List Bs) (s : Bs) (by1 : Int) : ladinglaw10_NameTurns names s by1 = some true := by
  unfold ladinglaw10_NameTurns
  rw [small_eq, bind_in]
  obtain ⟨b1, h1, h1'⟩ := short_eq names
  have j3t : ladinglaw10_NameTurns.j3 names s by1 true true = some true := rfl
  rw [h1, bind_in]
  cases b1 with
  | false => exact j3t
  | true =>
    rw [Bool.not_true, cond_false]
    simp only [ltZ_eq, bif_dec]
    by_cases hs : s.length ≤ 60
    · rw [if_neg (by omega)]
      by_cases hb0 : 0 ≤ by1
      · rw [if_neg (by omega), bind_in]
        by_cases hb : by1 ≤ names.length
        · rw [decide_eq_false (by omega)]
          have hn0 := h1' rfl
          have hn := okN_of hn0
          have hnl := hn.1
          have hsl : s.length ≤ 1000 := by omega
          have ms : s.length + 1 ≤ Mx := by unfold Mx; omega
          obtain ⟨n, rfl⟩ := Int.eq_ofNat_of_zero_le hb0
          unfold ladinglaw10_NameTurns.j3
          rw [cond_false, cut_in (by omega) (by omega) (by omega), bind_in, app_in (by simp; omega), bind_in, cut_in (by omega) (by omega) (by omega), bind_in, app_in (by simp; omega), bind_in]
          have e : ([] ++ (names.take (names.length : Int).toNat).drop ((n : Int).toNat) ++ (names.take ((n : Int).toNat)).drop ((0 : Int).toNat)) = names.drop n ++ names.take n := by
            simp
          rw [e]
          have hmem : ∀ x, x ∈ names.drop n ++ names.take n ↔ x ∈ names := by
            intro x
            rw [List.mem_append]
            constructor
            · rintro (h | h)
              · exact List.mem_of_mem_drop h
              · exact List.mem_of_mem_take h
            · intro h
              rw [← List.take_append_drop n names] at h
              exact (List.mem_append.1 h).symm
          have ht : okN (names.drop n ++ names.take n) := ⟨by simp; omega, fun x hx => hn.2 x ((hmem x).1 hx)⟩
          rw [free_eq hn okH_nil hsl, bind_in]
          have hloop : loopF (fun x => ladinglaw10_NameTurns.b1 names s x.1 x.2.1 x.2.2) (false, false, 0) = some (names.any (fun x => conf x s), decide (s ∈ names)) := by
            have := loop_fold (body := fun x : Bool × Bool × Int => ladinglaw10_NameTurns.b1 names s x.1 x.2.1 x.2.2) (fun k (st : Bool × Bool) => (st.1, st.2, (k : Int))) names (fun _ (st : Bool × Bool) x => (st.1 || conf x s, st.2 || decide (x = s))) id (fun _ _ => True) (fun _ _ _ _ => trivial) (fun k hk st _ => ?_) (fun st _ => ?_) (by omega) (s0 := (false, false)) trivial
            · rw [show ((false, false, 0) : Bool × Bool × Int) = ((false, false).1, (false, false).2, ((0 : Nat) : Int)) from rfl, this, foldI_foldl (fun (st : Bool × Bool) x => (st.1 || conf x s, st.2 || decide (x = s)))]
              have key : ∀ (l : List Bs) (p q : Bool), l.foldl (fun (st : Bool × Bool) x => (st.1 || conf x s, st.2 || decide (x = s))) (p, q) = (p || l.any (fun x => conf x s), q || decide (s ∈ l)) := by
                intro l
                induction l with
                | nil => intro p q; simp
                | cons x r ih =>
                  intro p q
                  rw [List.foldl_cons, ih, List.any_cons, Bool.or_assoc, Bool.or_assoc]
                  congr 2
                  by_cases h : x = s
                  · simp [h]
                  · simp [h, Ne.symm h]
              rw [key]; simp
            · dsimp only [ladinglaw10_NameTurns.b1]
              rw [bif_ltZ, if_pos (by omega), idx_nat hk, bind_in, bind_in, conf_eq (okN_at hn hk) ms, bind_in, z64_succ (by omega), bind_in, bind_in, bind_in]
              obtain ⟨p, q⟩ := st
              cases p <;> cases q <;> simp
            · dsimp only [ladinglaw10_NameTurns.b1]
              rw [bif_ltZ, if_neg (by omega)]; rfl
          rw [hloop, bind_in]
          dsimp only
          unfold ladinglaw10_NameTurns.j2
          rw [guard_eq hn hsl, bind_in, guard_2, beq_self_eq_true, Bool.not_true, cond_false, free_eq ht okH_nil hsl, bind_in, turns_free hmem, eqZ_eq]
          have hx : (bif names.any (fun x => conf x s) then ((name_Confusable (guardS names s).1 s).bind fun c26 => bif (!c26) then some true else some (!decide (freeS names [] s 0 = freeS names [] s 0))) else some (!decide (freeS names [] s 0 = freeS names [] s 0)) : Option Bool) = some false := by
            cases hg : names.any (fun x => conf x s) with
            | false => simp
            | true =>
              have := guard_1 (names := names) (s := s) (by rw [guard_2]; exact hg)
              rw [conf_eq (by have := hn.2 _ this.1; unfold Mx; omega) ms, this.2]
              simp [bind_in]
          rw [hx, bind_in]
          unfold ladinglaw10_NameTurns.j1
          rw [cond_false, cond_true, right_eq, bind_in, bind_in]
          simp only [eqZ_eq]
          have hin : s ∈ names → names.any (fun x => conf x s) = true := fun h => List.any_eq_true.2 ⟨s, h, conf_refl s⟩
          unfold freeS
          cases hr : rightB s with
          | false => rfl
          | true =>
            by_cases hm : s ∈ names
            · rw [if_neg (by simp), if_pos hm, hin hm]; simp [hm]
            · rw [if_neg (by simp), if_neg hm]
              cases names.any (fun x => conf x s) <;> simp [hm, heldS]
        · rw [decide_eq_true (by omega)]; exact j3t
      · rw [if_pos (by omega)]; exact j3t
    · rw [if_pos (by omega)]; exact j3t
end Go.Proofs.YtkhlbajdoaokeaaDoor
