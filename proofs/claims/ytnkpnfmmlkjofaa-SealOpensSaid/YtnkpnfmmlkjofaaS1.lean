/-
  Layer 5 (seal): the law SealOpens in plain words.
-/
import Derived.Test.YtnkpnfmmlkjofaaOModel
import Derived.Test.YtnkpnfmmlkjofaaLs
namespace Go.Proofs.Ytnkpnfmmlkjofaa
open Go.Lad
set_option linter.unusedVariables false
set_option linter.unusedSimpArgs false

def isKey (n : Int) : Bool := decide (0 ≤ n ∧ n < 200)
theorem key_eq (n : Int) : seal_key n = some (isKey n) := by
  unfold seal_key isKey
  simp only [leZ_eq, ltZ_eq, bif_dec]
  by_cases h : 0 ≤ n
  · rw [if_pos h]; congr 1; rw [decide_eq_decide]; omega
  · rw [if_neg h, decide_eq_false (by omega)]
/-! ### a ring: its entries, its map -/
abbrev RM : Type := List (GSealed × Int)
structure Ring (E : List GSealed) (M : RM) : Prop where
  look : ∀ e, lookM M e = (pos E e).map fun i => (i : Int)
  nd : E.Nodup
  keys : ∀ e ∈ E, isKey e.1 = true
def signE (E : List GSealed) (e : GSealed) : List GSealed := if isKey e.1 = true ∧ e ∉ E then E ++ [e] else E
def signM (E : List GSealed) (M : RM) (e : GSealed) : RM := if isKey e.1 = true ∧ e ∉ E then putM M e (E.length : Int) else M
def signR (E : List GSealed) (e : GSealed) : GSigned := if isKey e.1 = true then (e.1, e.2, (((pos E e).getD E.length : Nat) : Int)) else (0, [], 0)
def sg (s : List GSealed × RM) (e : GSealed) : List GSealed × RM := (signE s.1 e, signM s.1 s.2 e)
theorem ring_nil : Ring [] [] := ⟨fun e => rfl, List.nodup_nil, fun e he => by cases he⟩
theorem ring_sign {E : List GSealed} {M : RM} (h : Ring E M) (e : GSealed) : Ring (signE E e) (signM E M e) := by
  unfold signE signM
  by_cases hc : isKey e.1 = true ∧ e ∉ E
  · rw [if_pos hc, if_pos hc]
    refine ⟨fun x => ?_, ?_, fun x hx => ?_⟩
    · rw [look_put, h.look, pos_append]
      by_cases hx : x = e
      · subst hx
        rw [if_pos rfl, pos_none.2 hc.2]
        simp [pos]
      · rw [if_neg hx]
        cases hp : pos E x with
        | some i => rfl
        | none =>
          have : pos [e] x = none := pos_none.2 (by simp [hx])
          rw [this]; rfl
    · rw [List.nodup_append]
      exact ⟨h.nd, by simp, fun a ha b hb => by rw [List.mem_singleton.1 hb]; intro he; exact hc.2 (he ▸ ha)⟩
    · rcases List.mem_append.1 hx with hx | hx
      · exact h.keys x hx
      · rw [List.mem_singleton.1 hx]; exact hc.1
  · rw [if_neg hc, if_neg hc]; exact h
theorem signE_len (E : List GSealed) (e : GSealed) : E.length ≤ (signE E e).length ∧ (signE E e).length ≤ E.length + 1 := by
  unfold signE
  split <;> simp
theorem sign_eq {E : List GSealed} {M : RM} (h : Ring E M) (hl : E.length ≤ 1000) (k : Int) (t : Bs) : seal_Ring_Sign k t E M = some (signR E (k, t), signE E (k, t), signM E M (k, t)) := by
  unfold seal_Ring_Sign signR signE signM
  rw [key_eq, bind_in, bif_not, h.look]
  cases hk : isKey k with
  | false => simp
  | true =>
    rw [cond_true, bif_not]
    cases hp : pos E (k, t) with
    | some i =>
      have hm : (k, t) ∈ E := List.mem_of_getElem? (pos_some hp).1
      simp [hm]
    | none =>
      have hm : (k, t) ∉ E := pos_none.1 hp
      rw [app_in (by simp; omega), bind_in]
      simp [hm]
theorem all_eq {E : List GSealed} {M : RM} (hl : E.length ≤ 1000) : seal_Ring_All E M = some E := by
  unfold seal_Ring_All slices_Clone_api_Sealed_api_Sealed
  rw [bothN_same (r := E) (by rw [app_in (by simp; omega)]; simp [bind_in]) (fun e => by rw [e]), bind_in]
theorem copy_eq {E : List GSealed} {M : RM} (hl : E.length ≤ 1000) : seal_Ring_Copy E M = some (E, M) := by
  unfold seal_Ring_Copy slices_Clone_api_Sealed_api_Sealed maps_Clone
  rw [bothN_same (r := E) (by rw [app_in (by simp; omega)]; simp [bind_in]) (fun e => by rw [e]), bind_in, bind_in]
theorem valid_eq {E : List GSealed} {M : RM} (h : Ring E M) {s : GSigned} {i : Nat} (hp : pos E (s.1, s.2.1) = some i) (hs : s.2.2 = (i : Int)) : seal_Ring_Valid s E M = some true := by
  unfold seal_Ring_Valid
  rw [h.look, hp, eqZ_eq]
  simp [hs]
theorem same_refl {l : List GSealed} (h1 : l.length ≤ 1001) : ladingref05_Same l l = some true := by
  unfold ladingref05_Same
  rw [bif_not, bif_eqZ, if_pos rfl]
  have := loop_scan (body := fun x => ladingref05_Same.b1 l l x) l (fun _ _ => none) true (fun k hk => ?_) ?_ (by omega)
  · rw [this, scan_none.2 (fun i hi => rfl)]; rfl
  · dsimp only [ladingref05_Same.b1]
    rw [bif_ltZ, if_pos (by omega), idx_nat hk, bind_in, bind_in, z64_succ (by omega), eqZ_eq]
    simp [bind_in]
  · dsimp only [ladingref05_Same.b1]
    rw [bif_ltZ, if_neg (by omega)]
theorem few_eq (l : List GSealed) : ∃ b, ladingref05_Few l 40 = some b ∧ (b = true → l.length ≤ 40) := by
  unfold ladingref05_Few
  have hb : ∀ k : Nat, k ≤ l.length → k ≤ 41 → ladingref05_Few.b1 l 40 (k : Int) = if h : k < l.length ∧ k < 41 then some (if 500 < (l[k]'h.1).2.length then .inr false else .inl ((k + 1 : Nat) : Int)) else some (.inr (decide (l.length ≤ 40))) := by
    intro k hk h41
    have j1f : ladingref05_Few.j1 l 40 (k : Int) false = some (.inr (decide (l.length ≤ 40))) := by
      unfold ladingref05_Few.j1
      rw [cond_false, leZ_eq]; congr 2; rw [decide_eq_decide]; omega
    dsimp only [ladingref05_Few.b1]
    rw [bif_ltZ, leZ_eq]
    by_cases h : k < l.length ∧ k < 41
    · rw [if_pos (by omega), dif_pos h, bind_in, decide_eq_true (by omega)]
      unfold ladingref05_Few.j1
      rw [cond_true, idx_nat h.1, bind_in, bif_ltZ, z64_succ (by omega)]
      by_cases h6 : 500 < (l[k]'h.1).2.length
      · rw [if_pos (by omega), if_pos h6]
      · rw [if_neg (by omega), if_neg h6, bind_in]
    · rw [dif_neg h]
      by_cases h2 : k < l.length
      · rw [if_pos (by omega), bind_in, decide_eq_false (by omega), j1f]
      · rw [if_neg (by omega), bind_in, j1f]
  refine loopF_inv (fun k x => x = (k : Int) ∧ k ≤ l.length ∧ k ≤ 41) (min l.length 41) ⟨rfl, by omega, by omega⟩ (fun k hk x hx => ?_) (fun x hx => ?_)
  · obtain ⟨rfl, h1, h2⟩ := hx
    rw [hb k h1 h2, dif_pos ⟨by omega, by omega⟩]
    by_cases h6 : 500 < (l[k]'(by omega)).2.length
    · rw [if_pos h6]; exact .inr ⟨false, rfl, by simp⟩
    · rw [if_neg h6]
      exact .inl ⟨_, rfl, rfl, by omega, by omega⟩
  · obtain ⟨rfl, h1, h2⟩ := hx
    rw [hb _ h1 h2, dif_neg (by omega)]
    exact ⟨_, rfl, fun h => of_decide_eq_true h⟩
/-! ### Open -/
theorem fold_ring : ∀ (L : List GSealed) {s : List GSealed × RM}, Ring s.1 s.2 → Ring (L.foldl sg s).1 (L.foldl sg s).2
  | [], _, h => h
  | e :: L, s, h => fold_ring L (s := sg s e) (ring_sign h e)
theorem fold_nodup : ∀ (L : List GSealed) (s : List GSealed × RM), (s.1 ++ L).Nodup → (∀ e ∈ L, isKey e.1 = true) → (L.foldl sg s).1 = s.1 ++ L
  | [], s, _, _ => by simp
  | e :: L, s, hn, hk => by
    rw [List.foldl_cons]
    have hne : e ∉ s.1 := fun he => by
      rw [List.nodup_append] at hn
      exact hn.2.2 e he e List.mem_cons_self rfl
    have e1 : (sg s e).1 = s.1 ++ [e] := by
      show signE s.1 e = _
      unfold signE
      rw [if_pos ⟨hk e List.mem_cons_self, hne⟩]
    rw [fold_nodup L (sg s e) (by rw [e1, List.append_assoc]; exact hn) (fun x hx => hk x (List.mem_cons_of_mem _ hx)), e1, List.append_assoc]; rfl
theorem open_eq {E : List GSealed} (hn : E.Nodup) (hk : ∀ e ∈ E, isKey e.1 = true) (hl : E.length ≤ 500) : ∃ M, seal_Open E = some (0, E, M) ∧ Ring E M := by
  have hf := fold_nodup E ([], []) (by simpa using hn) hk
  have hr := fold_ring E (s := ([], [])) ring_nil
  rw [List.nil_append] at hf
  rw [hf] at hr
  refine ⟨(E.foldl sg ([], [])).2, ?_, hr⟩
  unfold seal_Open seal_New
  rw [bind_in]
  have := loop_fold (body := fun x : Int × List GSealed × RM => seal_Open.b1 E x.1 x.2.1 x.2.2) (fun k (s : List GSealed × RM) => ((k : Int), s.1, s.2)) E (fun _ s e => sg s e) (fun s => (.inl (s.1, s.2) : (List GSealed × RM) ⊕ (Int × List GSealed × RM))) (fun k s => Ring s.1 s.2 ∧ s.1.length ≤ k)
    (fun k hk' s hs => ⟨ring_sign hs.1 _, by have := (signE_len s.1 E[k]).2; have := hs.2; show (signE s.1 E[k]).length ≤ k + 1; omega⟩) (fun k hk' s hs => ?_) (fun s hs => ?_) (by omega) (s0 := (([] : List GSealed), ([] : RM))) ⟨ring_nil, Nat.le_refl _⟩
  · rw [show (((0 : Int), ([] : List GSealed), ([] : RM))) = (((0 : Nat) : Int), (([] : List GSealed), ([] : RM)).1, (([] : List GSealed), ([] : RM)).2) from rfl, this, bind_in, foldI_foldl sg]
    show seal_Open.j1 E (E.foldl sg ([], [])).1 (E.foldl sg ([], [])).2 = _
    rw [hf]
    unfold seal_Open.j1
    rw [bif_ltZ, if_neg (by omega)]
  · dsimp only [seal_Open.b1]
    rw [bif_ltZ, if_pos (by omega), idx_nat hk', bind_in, key_eq, hk _ (List.getElem_mem hk'), bind_in, Bool.not_true, cond_false, sign_eq hs.1 (by have := hs.2; omega), bind_in, z64_succ (by omega), bind_in]; rfl
  · dsimp only [seal_Open.b1]
    rw [bif_ltZ, if_neg (by omega)]
def openF (s : List GSealed × RM) (e : GSealed) : (List GSealed × RM) ⊕ ((List GSealed × RM) ⊕ Int) := if isKey e.1 = true then .inl (sg s e) else .inr (.inr 1)
theorem open2_loop (L : List GSealed) (hl : L.length ≤ 500) : loopF (fun x : Int × List GSealed × RM => seal_Open_v2.b1 L x.1 x.2.1 x.2.2) (0, [], []) = some (runI (fun _ s e => openF s e) (fun s => .inl s) 0 ([], []) L) := by
  refine loop_run (body := fun x : Int × List GSealed × RM => seal_Open_v2.b1 L x.1 x.2.1 x.2.2) (fun k (s : List GSealed × RM) => ((k : Int), s.1, s.2)) L (fun _ s e => openF s e) (fun s => .inl s) (fun k s => Ring s.1 s.2 ∧ s.1.length ≤ k)
    (fun k hk s s' hs he => ?_) (fun k hk s hs => ?_) (fun s hs => ?_) (by omega) (s0 := (([] : List GSealed), ([] : RM))) ⟨ring_nil, Nat.le_refl _⟩
  · unfold openF at he
    split at he
    · injection he with he
      subst he
      exact ⟨ring_sign hs.1 _, by have := (signE_len s.1 L[k]).2; have := hs.2; show (signE s.1 L[k]).length ≤ k + 1; omega⟩
    · cases he
  · dsimp only [seal_Open_v2.b1]
    rw [bif_ltZ, if_pos (by omega), idx_nat hk, bind_in, key_eq, bind_in, bif_not]
    unfold openF
    cases hkk : isKey L[k].1 with
    | false => rfl
    | true =>
      rw [cond_true, if_pos rfl, sign_eq hs.1 (by have := hs.2; omega), bind_in, z64_succ (by omega), bind_in]; rfl
  · dsimp only [seal_Open_v2.b1]
    rw [bif_ltZ, if_neg (by omega)]
theorem run_keys : ∀ (L : List GSealed) (R : List GSealed) (k : Nat) (s : List GSealed × RM), (∀ e ∈ L, isKey e.1 = true) → runI (fun _ s e => openF s e) (fun s => (.inl s : (List GSealed × RM) ⊕ Int)) k s (L ++ R) = runI (fun _ s e => openF s e) (fun s => .inl s) (k + L.length) (L.foldl sg s) R
  | [], R, k, s, _ => rfl
  | e :: L, R, k, s, h => by
    rw [List.cons_append]
    conv => lhs; unfold runI
    have : openF s e = .inl (sg s e) := by unfold openF; rw [if_pos (h e List.mem_cons_self)]
    rw [this]
    dsimp only
    rw [run_keys L R (k + 1) (sg s e) (fun x hx => h x (List.mem_cons_of_mem _ hx)), List.foldl_cons, List.length_cons, show k + 1 + L.length = k + (L.length + 1) by omega]
theorem twice_eq {E : List GSealed} (hn : E.Nodup) (hk : ∀ e ∈ E, isKey e.1 = true) (hl : E.length ≤ 400) {e : GSealed} (he : e ∈ E) : seal_Open_v2 (E ++ [e]) = some 5 := by
  have hf := fold_nodup E ([], []) (by simpa using hn) hk
  rw [List.nil_append] at hf
  unfold seal_Open_v2 seal_New
  rw [bind_in]
  dsimp only
  rw [open2_loop _ (by simp; omega)]
  have h := run_keys (E ++ [e]) [] 0 ([], []) (fun x hx => by
    rcases List.mem_append.1 hx with hx | hx
    · exact hk x hx
    · rw [List.mem_singleton.1 hx]; exact hk e he)
  rw [List.append_nil] at h
  rw [h]
  show seal_Open_v2.j1 (E ++ [e]) ((E ++ [e]).foldl sg ([], [])).1 ((E ++ [e]).foldl sg ([], [])).2 = _
  have h2 : ((E ++ [e]).foldl sg ([], [])).1 = E := by
    rw [List.foldl_append]
    show signE (E.foldl sg ([], [])).1 e = E
    rw [hf]
    unfold signE
    rw [if_neg (fun h => h.2 he)]
  unfold seal_Open_v2.j1
  rw [h2, bif_ltZ, if_pos (by simp; omega)]
theorem bad_eq {E : List GSealed} (hk : ∀ e ∈ E, isKey e.1 = true) (hl : E.length ≤ 400) {e b : GSealed} (he : e ∈ E) (hb : isKey b.1 = false) : seal_Open_v2 (E ++ [e, b]) = some 1 := by
  unfold seal_Open_v2 seal_New
  rw [bind_in]
  dsimp only
  rw [open2_loop _ (by simp; omega)]
  have h := run_keys (E ++ [e]) [b] 0 ([], []) (fun x hx => by
    rcases List.mem_append.1 hx with hx | hx
    · exact hk x hx
    · rw [List.mem_singleton.1 hx]; exact hk e he)
  rw [List.append_assoc, List.singleton_append] at h
  rw [h]
  unfold runI openF
  rw [hb]
  rfl
/-! ### the law -/
theorem small_eq : ladinglaw05_small = some true := by kernel_rfl
structure Made (E : List GSealed) (made : List GSigned) : Prop where
  at_ : ∀ x ∈ made, ∃ i : Nat, pos E (x.1, x.2.1) = some i ∧ x.2.2 = (i : Int)
theorem made_sign {E : List GSealed} {made : List GSigned} (h : Made E made) (e : GSealed) : Made (signE E e) made := by
  refine ⟨fun x hx => ?_⟩
  obtain ⟨i, h1, h2⟩ := h.at_ x hx
  refine ⟨i, ?_, h2⟩
  unfold signE
  split
  · rw [pos_append, h1]
  · exact h1
theorem signed_at {E : List GSealed} {e : GSealed} (hk : isKey e.1 = true) : ∃ i : Nat, pos (signE E e) ((signR E e).1, (signR E e).2.1) = some i ∧ (signR E e).2.2 = (i : Int) := by
  unfold signR signE
  rw [if_pos hk]
  dsimp only
  cases hp : pos E e with
  | some i =>
    have hm : e ∈ E := List.mem_of_getElem? (pos_some hp).1
    rw [if_neg (fun h => h.2 hm)]
    exact ⟨i, hp, rfl⟩
  | none =>
    have hm : e ∉ E := pos_none.1 hp
    rw [if_pos ⟨hk, hm⟩]
    refine ⟨E.length, ?_, rfl⟩
    rw [show (e.1, e.2) = e from rfl, pos_append, hp]
    simp [pos]
theorem opens_true (l : List GSealed) (more : GSealed) : ladinglaw05_SealOpens l more = some true := by
  unfold ladinglaw05_SealOpens
  rw [small_eq, bind_in]
  unfold seal_New
  rw [bind_in]
  obtain ⟨b, h1, h1'⟩ := few_eq l
  have j7t : ladinglaw05_SealOpens.j7 l more true ([], []) true = some true := rfl
  rw [h1, bind_in]
  cases b with
  | false => exact j7t
  | true =>
    rw [Bool.not_true, cond_false, bif_ltZ]
    have hl := h1' rfl
    by_cases hm : more.2.length ≤ 500
    · rw [if_neg (by omega), bind_in]
      unfold ladinglaw05_SealOpens.j7
      rw [cond_false]
      dsimp only
      have hloop : ∃ x : List GSigned × List GSealed × RM, loopF (fun x : Int × List GSigned × List GSealed × RM => ladinglaw05_SealOpens.b1 l x.1 x.2.1 x.2.2.1 x.2.2.2) (0, [], [], []) = some x ∧ (Ring x.2.1 x.2.2 ∧ x.2.1.length ≤ 40 ∧ Made x.2.1 x.1 ∧ x.1.length ≤ 40) := by
        refine loopF_inv (fun k x => x.1 = (k : Int) ∧ Ring x.2.2.1 x.2.2.2 ∧ x.2.2.1.length ≤ k ∧ Made x.2.2.1 x.2.1 ∧ x.2.1.length ≤ k) l.length ⟨rfl, ring_nil, Nat.le_refl _, ⟨fun x hx => by cases hx⟩, Nat.le_refl _⟩ (fun k hk x hx => ?_) (fun x hx => ?_) (by omega)
        · obtain ⟨n, made, E, M⟩ := x
          obtain ⟨hn, hr, he, hmd, hml⟩ := hx
          dsimp only at hn hr he hmd hml
          subst hn
          have e0 : ladinglaw05_SealOpens.b1 l (k : Int) made E M = ladinglaw05_SealOpens.j1 (k : Int) made (signR E l[k], signE E l[k], signM E M l[k]) (isKey l[k].1) := by
            unfold ladinglaw05_SealOpens.b1
            rw [bif_ltZ, if_pos (by omega), idx_nat hk, bind_in, bind_in, sign_eq hr (by omega), bind_in, bind_in, bif_leZ, bind_in, ltZ_eq]
            unfold isKey
            by_cases h0 : 0 ≤ l[k].1
            · rw [if_pos h0, bind_in]; congr 1; rw [decide_eq_decide]; omega
            · rw [if_neg h0, bind_in, decide_eq_false (show ¬ (0 ≤ l[k].1 ∧ l[k].1 < 200) by omega)]
          have hlen := (signE_len E l[k]).2
          cases hkk : isKey l[k].1 with
          | true =>
            rw [hkk] at e0
            refine .inl ⟨(((k + 1 : Nat) : Int), made ++ [signR E l[k]], signE E l[k], signM E M l[k]), ?_, rfl, ring_sign hr _, by dsimp only; omega, ⟨fun x hx => ?_⟩, by simp; omega⟩
            · dsimp only
              rw [e0]
              unfold ladinglaw05_SealOpens.j1
              rw [cond_true, app_in (by simp; omega), bind_in, z64_succ (by omega), bind_in]
            · rcases List.mem_append.1 hx with hx | hx
              · exact (made_sign hmd l[k]).at_ x hx
              · rw [List.mem_singleton.1 hx]; exact signed_at hkk
          | false =>
            rw [hkk] at e0
            refine .inl ⟨(((k + 1 : Nat) : Int), made, signE E l[k], signM E M l[k]), ?_, rfl, ring_sign hr _, by dsimp only; omega, made_sign hmd l[k], by dsimp only; omega⟩
            dsimp only
            rw [e0]
            unfold ladinglaw05_SealOpens.j1
            rw [cond_false, z64_succ (by omega), bind_in]
        · obtain ⟨n, made, E, M⟩ := x
          obtain ⟨hn, hr, he, hmd, hml⟩ := hx
          dsimp only at hn hr he hmd hml
          subst hn
          exact ⟨(made, E, M), by dsimp only [ladinglaw05_SealOpens.b1]; rw [bif_ltZ, if_neg (by omega)], hr, by dsimp only; omega, hmd, by dsimp only; omega⟩
      obtain ⟨⟨made, E, M⟩, hx, hr, hE, hmd, hml⟩ := hloop
      dsimp only at hr hE hmd hml
      rw [hx, bind_in]
      dsimp only
      unfold ladinglaw05_SealOpens.j6
      obtain ⟨M2, hop, hr2⟩ := open_eq hr.nd hr.keys (by omega)
      rw [all_eq (by omega), bind_in, hop, bind_in, bif_not, bif_eqZ, if_pos rfl, all_eq (by dsimp only; omega), bind_in, same_refl (by dsimp only; omega), bind_in, Bool.not_true, cond_false]
      have l2 : loopF (fun x => ladinglaw05_SealOpens.b2 made (0, E, M2) x) 0 = some ((scan (fun _ _ => (none : Option (Unit ⊕ Bool))) 0 made).getD (.inl ())) :=
        loop_scan (body := fun x => ladinglaw05_SealOpens.b2 made (0, E, M2) x) made (fun _ _ => none) (.inl ()) (fun k hk => by
          obtain ⟨i, h5, h6⟩ := hmd.at_ _ (List.getElem_mem hk)
          dsimp only [ladinglaw05_SealOpens.b2]
          rw [bif_ltZ, if_pos (by omega), idx_nat hk, bind_in, bind_in, valid_eq hr2 h5 h6, bind_in, Bool.not_true, cond_false, z64_succ (by omega), bind_in]) (by
          dsimp only [ladinglaw05_SealOpens.b2]
          rw [bif_ltZ, if_neg (by omega)]) (by omega)
      rw [l2, scan_none.2 (fun i hi => rfl), bind_in]
      show ladinglaw05_SealOpens.j5 more true E M E = _
      have j4 : ladinglaw05_SealOpens.j4 more true E M E = some true := by
        unfold ladinglaw05_SealOpens.j4
        have hs := sign_eq hr (by omega) more.1 more.2
        have hlen := (signE_len E (more.1, more.2)).2
        rw [copy_eq (by omega), bind_in]
        dsimp only
        rw [all_eq (by omega), bind_in, hs, bind_in]
        dsimp only
        rw [all_eq (by omega), bind_in, bind_in, bif_not, bif_eqZ, if_pos rfl, bind_in, same_refl (by omega), bind_in, bind_in]
        unfold ladinglaw05_SealOpens.j3
        rw [Bool.not_true, cond_false, show cat? more.2 ([120] : Bs) = some (more.2 ++ [120]) from if_pos (by simp; omega), bind_in]
        dsimp only
        rw [sign_eq hr (by omega), bind_in, cond_true, all_eq (by omega), bind_in, same_refl (by omega), bind_in]
      unfold ladinglaw05_SealOpens.j5
      rw [bif_ltZ]
      by_cases h0 : 0 < E.length
      · have hne : E ≠ [] := by intro e; rw [e] at h0; simp at h0
        have hz := z64_pred h0 (by omega)
        rw [if_pos (by omega), app_in (by simp; omega), List.nil_append, bind_in, hz, bind_in, idx_nat (show E.length - 1 < E.length by omega), bind_in, app_in (by simp; omega), bind_in, twice_eq hr.nd hr.keys (by omega) (List.getElem_mem _), bind_in, bind_in,
          show idx E 0 = some E[0] from idx_nat (k := 0) h0, bind_in, app_in (by simp; omega), bind_in, bad_eq hr.keys (by omega) (List.getElem_mem _) (by decide), bind_in]
        exact j4
      · rw [if_neg (by omega), bind_in]
        exact j4
    · rw [if_pos (by omega), bind_in]; exact j7t
end Go.Proofs.Ytnkpnfmmlkjofaa
