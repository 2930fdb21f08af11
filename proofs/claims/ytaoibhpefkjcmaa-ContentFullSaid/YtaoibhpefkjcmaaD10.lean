/-
  The typed run is sound: steps and regions.
-/
import Derived.Test.YtaoibhpefkjcmaaD9
namespace Go.Lad
set_option linter.unusedVariables false
set_option linter.unusedSimpArgs false
open Go.RowKit

section
variable {ρ : Type} {E : Env} {Γ : Opt} {fx cur : TSt} {r : ρ}
/-- what a step of the typed run says of the abstract run -/
def Stepped (P : Program) (Γ : Opt) (fx cur : TSt) (o : Oper) (k : KE ρ) (r : ρ) : Prop :=
  ∃ x wr, k x wr = some r ∧ stepA P Γ (un2 fx cur) o fun e => (un2 fx cur).app o.dst e = un2 fx (appT cur o.dst x wr)
theorem step_did {P : Program} {o : Oper} {op' : Option Eff} {k : KE ρ} (hd : Did op' k r) (hx : opX P Γ (un2 fx cur) o = op') (hnc : ∀ c f, o.op = .call c → c.callee ≠ .value f) : Stepped P Γ fx cur o k r := by
  obtain ⟨x, wr, c, h1, h2, h3⟩ := hd
  refine ⟨x, wr, h1, ?_⟩
  unfold stepA
  split
  · rename_i f a t heq
    exact absurd rfl (hnc _ f heq)
  · rw [hx, h2]
    exact ⟨h3, app_un o.dst x wr c⟩
theorem arg_fun : (un2 fx cur).arg = fun x => argU fx cur (evT fx cur constT x) := by
  funext x
  unfold St.arg argU
  rw [ev_un]
theorem arr1 {α : Type} {a : Array α} {l : List α} (h : a.toList = l) : a = l.toArray := by cases a; simp_all
theorem conOf_ok {Φ : List Con} {sel : List (Nat × Nat)} {f : FuncId} {d : Nat} {con : Con} (h : conOf Φ sel f d = some con) : con ∈ Φ ∧ con.f = f := by
  unfold conOf at h
  split at h
  · split at h
    · rename_i c hc
      cases hb : Nat.beq c.f f with
      | true =>
        rw [hb] at h
        simp only [cond_true, Option.some.injEq] at h
        subst h
        rw [beqN, decide_eq_true_eq] at hb
        exact ⟨List.mem_of_getElem? hc, hb⟩
      | false => rw [hb] at h; cases h
    · cases h
  · have h1 := List.mem_of_find?_eq_some h
    have h2 := List.find?_some h
    rw [beqN, decide_eq_true_eq] at h2
    exact ⟨h1, h2⟩
set_option maxHeartbeats 1000000 in
theorem opT_ok {o : Oper} {k : KE ρ} (hΦ : ∀ con ∈ E.Φ, ConOK E.P con) (hΓ : Γ.hs = E.hs) (h : opT E fx o.op o.dst cur k = some r) : Stepped E.P Γ fx cur o k r := by
  obtain ⟨dst, op, type, pos, after, g⟩ := o
  cases op with
  | move x => exact step_did (move_ok h) (by unfold opX opE opY; simp [Op.opds, orE_r, orE_l, Function.comp_def, St.arg, ev_un]) (by simp)
  | assign x => exact step_did (move_ok h) (by unfold opX opE opY; simp [Op.opds, orE_r, orE_l, Function.comp_def, St.arg, ev_un]) (by simp)
  | pick c x y => exact step_did (pick_ok h) (by unfold opX opE opY; simp [Op.opds, orE_r, orE_l, Function.comp_def, St.arg, ev_un]) (by simp)
  | alloc t => exact step_did (alloc_ok h) (by unfold opX opE opY; simp [Op.opds, orE_r, orE_l, Function.comp_def, St.arg, ev_un]) (by simp)
  | load t x => exact step_did (load_ok h) (by unfold opX opE opY; simp [Op.opds, orE_r, orE_l, Function.comp_def, St.arg, ev_un, argU]) (by simp)
  | store t x v => exact step_did (store_ok h) (by unfold opX opE opY; simp [Op.opds, orE_r, orE_l, Function.comp_def, St.arg, ev_un, argU]) (by simp)
  | nilCheck x => exact step_did (nil_ok h) (by unfold opX opE opY; simp [Op.opds, orE_r, orE_l, Function.comp_def, St.arg, ev_un]) (by simp)
  | fieldAddr t x f => exact step_did (fieldAddr_ok h) (by unfold opX opE opY; simp [Op.opds, orE_r, orE_l, Function.comp_def, St.arg, ev_un]) (by simp)
  | field t x f => exact step_did (field_ok h) (by unfold opX opE opY; simp [Op.opds, orE_r, orE_l, Function.comp_def, St.arg, ev_un]) (by simp)
  | indexAddr t x i => exact step_did (indexAddr_ok h) (by unfold opX opE opY; simp [Op.opds, orE_r, orE_l, Function.comp_def, St.arg, ev_un, argU]) (by simp)
  | index t x i => exact step_did (index_ok h) (by unfold opX opE opY; simp [Op.opds, orE_r, orE_l, Function.comp_def, St.arg, ev_un]) (by simp)
  | binOp b t x y t' => exact step_did (bin_ok h) (by unfold opX opE opY; simp [Op.opds, orE_r, orE_l, Function.comp_def, St.arg, ev_un]) (by simp)
  | unOp b t x => exact step_did (un_ok h) (by unfold opX opE opY; simp [Op.opds, orE_r, orE_l, Function.comp_def, St.arg, ev_un]) (by simp)
  | extract x i => exact step_did (extract_ok h) (by unfold opX opE opY; simp [Op.opds, orE_r, orE_l, Function.comp_def, St.arg, ev_un]) (by simp)
  | build t ps => exact step_did (build_ok h) (by unfold opX opE opY; simp [Op.opds, orE_r, orE_l, Function.comp_def, St.arg, ev_un]) (by simp)
  | buildSlice t n ps => exact step_did (buildSlice_ok h) (by unfold opX opE opY; simp [Op.opds, orE_r, orE_l, Function.comp_def, St.arg, ev_un, argU]) (by simp)
  | convert s t x => exact step_did (conv_ok h) (by unfold opX opE opY; simp [Op.opds, orE_r, orE_l, Function.comp_def, St.arg, ev_un, argU]) (by simp)
  | slice t x l hh m =>
    cases m with
    | none => exact step_did (slice_ok h) (by unfold opX opE opY; simp [Op.opds, orE_r, orE_l, Function.comp_def, arg_fun]) (by simp)
    | some m => cases h
  | box t x => exact step_did (box_ok h) (by unfold opX opE opY; simp [Op.opds, orE_r, orE_l, Function.comp_def, St.arg, ev_un]) (by simp)
  | makeMap t rs =>
    cases rs with
    | none => exact step_did (makeMap_ok h) (by unfold opX opE opY; simp [Op.opds, orE_r, orE_l, Function.comp_def, St.arg, ev_un]) (by simp)
    | some m => cases h
  | lookup t m x ok => exact step_did (lookup_ok h) (by unfold opX opE opY; simp [Op.opds, orE_r, orE_l, Function.comp_def, St.arg, ev_un, argU]) (by simp)
  | mapUpdate t m x v => exact step_did (mapUpdate_ok h) (by unfold opX opE opY; simp [Op.opds, orE_r, orE_l, Function.comp_def, St.arg, ev_un, argU]) (by simp)
  | makeSlice t x y => exact step_did (makeSlice_ok h) (by unfold opX opE opY; simp [Op.opds, orE_r, orE_l, Function.comp_def, St.arg, ev_un]) (by simp)
  | makeFunc fn first caps =>
    cases fn with
    | func f =>
      unfold opT at h
      dsimp only at h
      split at h
      · rename_i hfirst
        have hf : first = #[] := arr1 hfirst
        subst hf
        exact step_did (makeFunc_ok (first := 0) rfl h) (by unfold opX opE opY; simp [Op.opds, orE_r, orE_l, Function.comp_def, St.arg, ev_un]) (by simp)
      · cases h
    | _ => cases h
  | call c =>
    obtain ⟨callee, args, ts⟩ := c
    cases callee with
    | builtin b =>
      cases b with
      | len =>
        unfold opT at h
        dsimp only at h
        split at h
        · rename_i x t h1 h2
          have h1 := arr1 h1
          have h2 := arr1 h2
          subst h1 h2
          exact step_did (len_ok h) (by unfold opX opE opY; simp [Op.opds, orE_r, orE_l, Function.comp_def, St.arg, ev_un, argU]) (fun c f hc => by cases hc; simp)
        · cases h
      | append =>
        unfold opT at h
        dsimp only at h
        split at h
        · rename_i x y t t' h1 h2
          have h1 := arr1 h1
          have h2 := arr1 h2
          obtain ⟨ht, h7⟩ := cond_some h
          rw [beqN, decide_eq_true_eq] at ht
          subst h1 h2 ht
          exact step_did (append_ok h7) (by unfold opX opE opY; simp [Op.opds, orE_r, orE_l, Function.comp_def, St.arg, ev_un, argU]) (fun c f hc => by cases hc; simp)
        · cases h
      | min =>
        unfold opT at h
        dsimp only at h
        split at h
        · rename_i x y h1
          have h1 := arr1 h1
          subst h1
          exact step_did (minmax_ok h) (by unfold opX opE opY; simp [Op.opds, orE_r, orE_l, Function.comp_def, St.arg, ev_un]) (fun c f hc => by cases hc; simp)
        · cases h
      | max =>
        unfold opT at h
        dsimp only at h
        split at h
        · rename_i x y h1
          have h1 := arr1 h1
          subst h1
          exact step_did (minmax_ok h) (by unfold opX opE opY; simp [Op.opds, orE_r, orE_l, Function.comp_def, St.arg, ev_un]) (fun c f hc => by cases hc; simp)
        · cases h
      | _ => cases h
    | value f =>
      unfold opT at h
      dsimp only at h
      split at h
      · rename_i fid caps d hev
        split at h
        · rename_i con hcon
          obtain ⟨hc, h⟩ := cond_some h
          obtain ⟨hm, hf⟩ := conOf_ok hcon
          subst hf
          have hfo : (un2 fx cur).ev f = .c (.v (.fn con.f caps)) := by rw [ev_un, hev]; rfl
          have hargs : callArgs (un2 fx cur) ⟨.value f, args, ts⟩ caps = (args.toList.map (evT fx cur constT) ++ caps.map fun o => tL (.loc o 0)).map TSl.un := by
            unfold callArgs
            rw [List.map_append, List.map_map, List.map_map]
            congr 1
            exact List.map_congr_left fun x _ => ev_un fx cur x
          obtain ⟨y, wr, h1, e, h2, h3, h4⟩ := callT_ok (Γ := Γ) (o := ⟨some d, .call ⟨.value f, args, ts⟩, type, pos, after, g⟩) (hΦ con hm) rfl rfl rfl hfo hargs (fun hp => by
            unfold pureAt at hp
            dsimp only at hp
            rw [hΓ] at hp
            split at hc
            · rename_i k1 k2; exact ⟨k1, k2⟩
            · rw [hasN_iff] at hc
              rw [Bool.not_eq_true', List.contains_eq_mem, decide_eq_false_iff_not] at hp
              exact absurd hc hp) h
          exact ⟨y, wr, h1, e, h2, h3, h4⟩
        · cases h
      · cases h
    | invoke _ _ => cases h
  | _ => cases h

/-! ### regions -/
theorem forceTm_eq {α : Type} : ∀ (l : List (Nat × TSl)) (k : List (Nat × TSl) → α), forceTm l k = k l
  | [], k => rfl
  | (i, .dead) :: l, k => by unfold forceTm; exact forceTm_eq l _
  | (i, .c (.v (.v t y))) :: l, k => by unfold forceTm; exact forceTm_eq l _
  | (i, .c (.v .dead)) :: l, k => by unfold forceTm; exact forceTm_eq l _
  | (i, .c (.v .nil)) :: l, k => by unfold forceTm; exact forceTm_eq l _
  | (i, .c (.v (.loc _ _))) :: l, k => by unfold forceTm; exact forceTm_eq l _
  | (i, .c (.v (.own _))) :: l, k => by unfold forceTm; exact forceTm_eq l _
  | (i, .c (.v (.el _ _ _ _))) :: l, k => by unfold forceTm; exact forceTm_eq l _
  | (i, .c (.v (.ip _ _ _))) :: l, k => by unfold forceTm; exact forceTm_eq l _
  | (i, .c (.v (.mp _))) :: l, k => by unfold forceTm; exact forceTm_eq l _
  | (i, .c (.v (.fn _ _))) :: l, k => by unfold forceTm; exact forceTm_eq l _
  | (i, .c (.v (.sv _ _ _ _))) :: l, k => by unfold forceTm; exact forceTm_eq l _
  | (i, .c (.v (.oth _))) :: l, k => by unfold forceTm; exact forceTm_eq l _
  | (i, .c (.v (.nb _ _ _))) :: l, k => by unfold forceTm; exact forceTm_eq l _
  | (i, .c (.g _)) :: l, k => by unfold forceTm; exact forceTm_eq l _
  | (i, .t _) :: l, k => by unfold forceTm; exact forceTm_eq l _
theorem guardT_ok {ops : List Oper} {g d : Nat} {x : TSl} (h : guardT fx ops cur g = some (d, x)) : guardSlot ops (un2 fx cur) g = x.un ∧ tmAt fx cur d = x := by
  unfold guardT at h
  unfold guardSlot
  split at h
  · rename_i o ho
    split at h
    · rename_i d' hd
      injection h with h
      injection h with h1 h2
      subst h1
      rw [look2_eq] at h2
      have hx : tmAt fx cur d' = x := h2
      rw [ho]
      refine ⟨?_, hx⟩
      show (match o.dst with | some d => (un2 fx cur).tm d | none => .dead) = _
      rw [hd]
      show (un2 fx cur).tm d' = _
      rw [un2_tm, hx]
    · cases h
  · cases h
/-- a bool that is known by now -/
theorem known_un {d : Nat} {c : Bool} (h : tmAt fx cur d = tV .bool c) : un2 fx ⟨putA cur.tm d (tV .bool c), cur.hp⟩ = un2 fx cur := by
  refine St.ext' (fun k => ?_) (fun o => ?_)
  · rw [un2_tm, un2_tm]
    unfold tmAt at h ⊢
    dsimp only
    rw [lookL_app, lookL_putA]
    by_cases hk : k = d
    · subst hk
      rw [if_pos rfl, h]; rfl
    · rw [if_neg hk, lookL_app]
  · rw [un2_hp, un2_hp]; rfl
theorem skip_un (d : Option Nat) : (un2 fx cur).app d skipE = un2 fx (appT cur d (.t []) []) := app_un d (.t []) [] True
theorem regT_ok {P : Program} (hP : P = E.P) (hvs : Γ.vs = []) (hΦ : ∀ con ∈ E.Φ, ConOK E.P con) (hΓ : Γ.hs = E.hs) {ops : List Oper} {K : TSt → Option ρ} {Q : St → Prop} (hQ : ∀ c, K c = some r → Q (un2 fx c)) : ∀ (l : List Oper) (cur : TSt), regT E fx ops l cur K = some r → regA P Γ ops l (un2 fx cur) Q
  | [], cur, h => hQ cur h
  | o :: rest, cur, h => by
    subst hP
    have ih := regT_ok (ops := ops) rfl hvs hΦ hΓ hQ rest
    have run : ∀ cur : TSt, (opT E fx o.op o.dst cur fun x wr => forceTm (appT cur o.dst x wr).tm fun tm => regT E fx ops rest ⟨tm, (appT cur o.dst x wr).hp⟩ K) = some r → stepA E.P Γ (un2 fx cur) o fun e => regA E.P Γ ops rest ((un2 fx cur).app o.dst e) Q := by
      intro cur h
      obtain ⟨x, wr, h1, h2⟩ := opT_ok hΦ hΓ h
      dsimp only at h1
      rw [forceTm_eq] at h1
      have h3 := ih _ h1
      exact stepA_mono (fun e he => by rw [he]; exact h3) h2
    unfold regA viewA
    have hv : inL Γ.vs o.dst = false := by rw [hvs]; unfold inL; cases o.dst <;> rfl
    rw [hv]
    simp only [Bool.false_eq_true, if_false]
    unfold regT at h
    split at h
    · rename_i hg
      rw [hg]
      exact run cur h
    · rename_i g b hg
      rw [hg]
      dsimp only
      split at h
      · rename_i d c hgt
        obtain ⟨c, rfl⟩ : ∃ q : Bool, q = c := ⟨c, rfl⟩
        obtain ⟨g1, g2⟩ := guardT_ok hgt
        rw [g1]
        show (c = b → _) ∧ (c = !b → _)
        have hk := known_un g2
        cases c with
        | true =>
          rw [cond_true] at h
          cases b with
          | true =>
            rw [cond_true] at h
            refine ⟨fun _ => ?_, (fun h => nomatch h)⟩
            have := run ⟨putA cur.tm d (tV .bool true), cur.hp⟩ h
            rw [hk] at this
            exact this
          | false =>
            rw [cond_false] at h
            refine ⟨(fun h => nomatch h), fun _ => ?_⟩
            have := ih _ h
            rw [← skip_un, hk] at this
            exact this
        | false =>
          rw [cond_false] at h
          cases b with
          | true =>
            rw [cond_true] at h
            refine ⟨(fun h => nomatch h), fun _ => ?_⟩
            have := ih _ h
            rw [← skip_un, hk] at this
            exact this
          | false =>
            rw [cond_false] at h
            refine ⟨fun _ => ?_, (fun h => nomatch h)⟩
            have := run ⟨putA cur.tm d (tV .bool false), cur.hp⟩ h
            rw [hk] at this
            exact this
      · rename_i d l hgt
        obtain ⟨g1, g2⟩ := guardT_ok hgt
        rw [g1]
        show regA E.P Γ ops rest ((un2 fx cur).app o.dst skipE) Q
        rw [skip_un]
        exact ih _ h
      · cases h
end
end Go.Lad
