/-
  How a code's formula is read off: rules for 'simp'.
-/
import Derived.Test.YtaoibhpefkjcmaaAb14
namespace Go.Lad
set_option linter.unusedVariables false
set_option linter.unusedSimpArgs false
open Go.RowKit

section
variable {P : Program} {Γ : Opt} {s s' : St} {Q : AEx → St → Prop} {K : St → Prop}
theorem stepA_mono {o : Oper} {K K' : Eff → Prop} (hK : ∀ e, K e → K' e) (h : stepA P Γ s o K) : stepA P Γ s o K' := by
  unfold stepA at h ⊢
  split at h
  · obtain ⟨e, h1, h2, h3⟩ := h; exact ⟨e, h1, h2, hK e h3⟩
  · split at h
    · exact ⟨h.1, hK _ h.2⟩
    · exact h.elim
theorem viewA_mono {o : Oper} {K K' : St → Prop} (hK : ∀ s, K s → K' s) (h : viewA Γ o s K) : viewA Γ o s K' := by
  unfold viewA at h ⊢
  split at h
  · rename_i hv
    rw [if_pos hv]
    rcases h with h | ⟨tms, hps, σ, h1, h2⟩
    · exact .inl (hK _ h)
    · exact .inr ⟨tms, hps, σ, h1, hK _ h2⟩
  · rename_i hv
    rw [if_neg hv]
    exact hK _ h
theorem regA_mono {ops : List Oper} {K' : St → Prop} (hK : ∀ s, K s → K' s) : ∀ (l : List Oper) (s : St), regA P Γ ops l s K → regA P Γ ops l s K'
  | [], s, h => hK s h
  | o :: rest, s, h => by
    unfold regA at h ⊢
    refine viewA_mono (fun s h => ?_) h
    split at h <;> rename_i hg
    · exact stepA_mono (fun e h => regA_mono hK rest _ h) h
    · split at h <;> rename_i he
      · exact ⟨fun hc => stepA_mono (fun e h => regA_mono hK rest _ h) (h.1 hc), fun hc => regA_mono hK rest _ (h.2 hc)⟩
      · exact regA_mono hK rest _ h
      · exact h
theorem codeA_mono : ∀ (c : Code) {s : St} {Q Q' : AEx → St → Prop}, (∀ e s, Q e s → Q' e s) → codeA P Γ c s Q → codeA P Γ c s Q'
  | .skip, s, Q, Q', hq, h => hq _ _ h
  | .region _ ops _, s, Q, Q', hq, h => regA_mono (fun s h => hq _ s h) _ _ h
  | .seq a b, s, Q, Q', hq, h => codeA_mono a (Q' := thenA (JoinAt Γ.js b fun s' => codeA P Γ b s' Q') Q') (fun e s h => by
      cases e with
      | normal =>
        have h : JoinAt Γ.js b (fun s' => codeA P Γ b s' Q) s := h
        show JoinAt Γ.js b (fun s' => codeA P Γ b s' Q') s
        unfold JoinAt at h ⊢
        split at h <;> rename_i hj
        · rw [if_pos hj]
          rcases h with h | ⟨tms, hps, σ, h1, h⟩
          · exact .inl (codeA_mono b hq h)
          · exact .inr ⟨tms, hps, σ, h1, codeA_mono b hq h⟩
        · rw [if_neg hj]
          exact codeA_mono b hq h
      | exit i => exact hq _ _ h
      | ret => exact hq _ _ h) h
  | .cond c a b, s, Q, Q', hq, h => by
    unfold codeA at h ⊢
    unfold condA at h ⊢
    split at h
    · exact ⟨fun ht => codeA_mono a hq (h.1 ht), fun ht => codeA_mono b hq (h.2 ht)⟩
    · split at h
      · rename_i hp; rw [if_pos hp]; exact ⟨fun ht => codeA_mono a hq (h.1 ht), codeA_mono b hq h.2⟩
      · rename_i hp; rw [if_neg hp]; exact ⟨codeA_mono a hq h.1, fun ht => codeA_mono b hq (h.2 ht)⟩
    · exact h.elim
  | .block id b, s, Q, Q', hq, h => codeA_mono b (Q' := blockA id Q') (fun e s h => by
      cases e with
      | normal => exact hq _ _ h
      | exit i =>
        have h : (if i = id then Q .normal s else Q (.exit i) s) := h
        show (if i = id then Q' .normal s else Q' (.exit i) s)
        split
        · rename_i hi; rw [if_pos hi] at h; exact hq _ _ h
        · rename_i hi; rw [if_neg hi] at h; exact hq _ _ h
      | ret => exact hq _ _ h) h
  | .loop b, s, Q, Q', hq, h => by
    obtain ⟨α, tms, hps, μ, h0, hr⟩ := h
    refine ⟨α, tms, hps, μ, h0, fun x => codeA_mono b (fun e s h => ?_) (hr x)⟩
    cases e with
    | normal => exact h
    | exit i => exact hq _ _ h
    | ret => exact hq _ _ h
  | .exit id, s, Q, Q', hq, h => hq _ _ h
  | .ret, s, Q, Q', hq, h => hq _ _ h
  | .scope b, s, Q, Q', hq, h => codeA_mono b hq h
  | .rangeFunc _ _ _ _, _, _, _, _, h => h.elim
  | .label _, _, _, _, _, h => h.elim
  | .goto _, _, _, _, _, h => h.elim
  | .refuse _, _, _, _, _, h => h.elim
/-! ### the walk: what is left to do is data -/
inductive Fr where
  | code (c : Code)
  | blk (id : Nat)
def contQ (P : Program) (Γ : Opt) : List Fr → (AEx → St → Prop) → AEx → St → Prop
  | [], Q => Q
  | .code c :: k, Q => thenA (JoinAt Γ.js c fun s => codeA P Γ c s (contQ P Γ k Q)) (contQ P Γ k Q)
  | .blk id :: k, Q => blockA id (contQ P Γ k Q)
def codeR (P : Program) (Γ : Opt) (c : Code) (k : List Fr) (s : St) (Q : AEx → St → Prop) : Prop := codeA P Γ c s (contQ P Γ k Q)
def contR (P : Program) (Γ : Opt) (k : List Fr) (s : St) (Q : AEx → St → Prop) : Prop := contQ P Γ k Q .normal s
def exitR (P : Program) (Γ : Opt) (i : Nat) (k : List Fr) (s : St) (Q : AEx → St → Prop) : Prop := contQ P Γ k Q (.exit i) s
def retR (s : St) (Q : AEx → St → Prop) : Prop := Q .ret s
def opsR (P : Program) (Γ : Opt) (ops rest : List Oper) (k : List Fr) (s : St) (Q : AEx → St → Prop) : Prop := regA P Γ ops rest s (fun s' => contQ P Γ k Q .normal s')
def effR (P : Program) (Γ : Opt) (e : Option Eff) (d : Option Nat) (ops rest : List Oper) (k : List Fr) (s : St) (Q : AEx → St → Prop) : Prop :=
  match e with
  | some e => e.cond ∧ opsR P Γ ops rest k (s.app d e) Q
  | none => False
/-- a call: its function's value, the values of its arguments -/
def callR (P : Program) (Γ : Opt) (fv : Slot) (args : List Slot) (o : Oper) (ops rest : List Oper) (k : List Fr) (s : St) (Q : AEx → St → Prop) : Prop :=
  (∀ c fo, o.op = .call c → c.callee = .value fo → s.ev fo = fv ∧ c.args.toList.map s.ev = args) → ∃ e, CallStep P Γ s o e ∧ e.cond ∧ opsR P Γ ops rest k (s.app o.dst e) Q
/-- one operation ahead of the rest -/
def opsN (P : Program) (Γ : Opt) (ops : List Oper) (o : Oper) (rest : List Oper) (k : List Fr) (s : St) (Q : AEx → St → Prop) : Prop :=
  match o.guard with
  | none => stepA P Γ s o fun e => opsR P Γ ops rest k (s.app o.dst e) Q
  | some (g, b) => match guardSlot ops s g with
    | .c (.v (.p (.bool c))) => (c = b → stepA P Γ s o fun e => opsR P Γ ops rest k (s.app o.dst e) Q) ∧ (c = !b → opsR P Γ ops rest k (s.app o.dst skipE) Q)
    | .t _ => opsR P Γ ops rest k (s.app o.dst skipE) Q
    | _ => False
def guardR (P : Program) (Γ : Opt) (x : Slot) (b : Bool) (o : Oper) (ops rest : List Oper) (k : List Fr) (s : St) (Q : AEx → St → Prop) : Prop :=
  match x with
  | .c (.v (.p (.bool c))) => (c = b → opsN P Γ ops { o with guard := none } rest k s Q) ∧ (c = !b → opsR P Γ ops rest k { tm := (s.put o.dst (.t [])).tm, hp := s.hp } Q)
  | .t _ => opsR P Γ ops rest k { tm := (s.put o.dst (.t [])).tm, hp := s.hp } Q
  | _ => False
def condR (P : Program) (Γ : Opt) (x : Slot) (a b : Code) (k : List Fr) (s : St) (Q : AEx → St → Prop) : Prop := condA x (codeR P Γ a k s Q) (codeR P Γ b k s Q)
def LoopR (P : Program) (Γ : Opt) (b : Code) (k : List Fr) (s : St) (Q : AEx → St → Prop) : Prop := codeA P Γ (.loop b) s (contQ P Γ k Q)
/-- the end of a round -/
def roundQ (P : Program) (Γ : Opt) {α : Type} (tms : α → List (Nat × Slot)) (hps : α → List (Nat × HObj)) (R : α → Prop) (k : List Fr) (Q : AEx → St → Prop) : AEx → St → Prop
  | .normal, s => ∃ y σ, R y ∧ Sub σ s (tms y) (hps y)
  | e, s => contQ P Γ k Q e s

section
variable {k : List Fr} {ops rest : List Oper}
@[congr] theorem opsR_congr (h : s = s') : opsR P Γ ops rest k s Q = opsR P Γ ops rest k s' Q := by rw [h]
@[congr] theorem opsN_congr {o : Oper} (h : s = s') : opsN P Γ ops o rest k s Q = opsN P Γ ops o rest k s' Q := by rw [h]
@[congr] theorem codeR_congr {c : Code} (h : s = s') : codeR P Γ c k s Q = codeR P Γ c k s' Q := by rw [h]
@[congr] theorem contR_congr (h : s = s') : contR P Γ k s Q = contR P Γ k s' Q := by rw [h]
@[congr] theorem exitR_congr {i : Nat} (h : s = s') : exitR P Γ i k s Q = exitR P Γ i k s' Q := by rw [h]
@[congr] theorem retR_congr (h : s = s') : retR s Q = retR s' Q := by rw [h]
@[congr] theorem effR_congr {e e' : Option Eff} {d : Option Nat} (he : e = e') (h : s = s') : effR P Γ e d ops rest k s Q = effR P Γ e' d ops rest k s' Q := by rw [he, h]
@[congr] theorem callR_congr {fv fv' : Slot} {args args' : List Slot} {o : Oper} (hf : fv = fv') (ha : args = args') (h : s = s') : callR P Γ fv args o ops rest k s Q = callR P Γ fv' args' o ops rest k s' Q := by rw [hf, ha, h]
@[congr] theorem guardR_congr {x x' : Slot} {b : Bool} {o : Oper} (hx : x = x') (h : s = s') : guardR P Γ x b o ops rest k s Q = guardR P Γ x' b o ops rest k s' Q := by rw [hx, h]
@[congr] theorem condR_congr {x x' : Slot} {a b : Code} (hx : x = x') (h : s = s') : condR P Γ x a b k s Q = condR P Γ x' a b k s' Q := by rw [hx, h]
@[congr] theorem LoopR_congr {b : Code} (h : s = s') : LoopR P Γ b k s Q = LoopR P Γ b k s' Q := by rw [h]
theorem cR_of {c : Code} {rs : List ResultVar} {res : Rz} {hps : List (Nat × HObj)} : codeA P Γ c s (endA P rs res hps) = codeR P Γ c [] s (endA P rs res hps) := rfl
theorem cR_skip : codeR P Γ .skip k s Q = contR P Γ k s Q := rfl
theorem cR_region {id : Nat} {l : List Oper} {d : Bool} : codeR P Γ (.region id l.toArray d) k s Q = opsR P Γ l l k s Q := rfl
theorem cR_seq {a b : Code} (_h : Γ.js.contains (headId b) = false) : codeR P Γ (.seq a b) k s Q = codeR P Γ a (.code b :: k) s Q := rfl
theorem cR_seq' {a b : Code} : codeR P Γ (.seq a b) k s Q = codeR P Γ a (.code b :: k) s Q := rfl
theorem cR_cond {c : Operand} {a b : Code} : codeR P Γ (.cond c a b) k s Q = condR P Γ (s.ev c) a b k s Q := rfl
theorem cR_block {id : Nat} {b : Code} : codeR P Γ (.block id b) k s Q = codeR P Γ b (.blk id :: k) s Q := rfl
theorem cR_loop {b : Code} : codeR P Γ (.loop b) k s Q = LoopR P Γ b k s Q := rfl
theorem cR_exit {i : Nat} : codeR P Γ (.exit i) k s Q = exitR P Γ i k s Q := rfl
theorem contQ_ret : ∀ (k : List Fr), contQ P Γ k Q .ret s = Q .ret s
  | [] => rfl
  | .code _ :: k => contQ_ret k
  | .blk _ :: k => contQ_ret k
theorem cR_ret : codeR P Γ .ret k s Q = retR s Q := contQ_ret k
theorem cR_scope {b : Code} : codeR P Γ (.scope b) k s Q = codeR P Γ b k s Q := rfl
theorem kR_code {c : Code} (h : Γ.js.contains (headId c) = false) : contR P Γ (.code c :: k) s Q = codeR P Γ c k s Q := by
  show JoinAt Γ.js c (fun s => codeA P Γ c s (contQ P Γ k Q)) s = _
  unfold JoinAt
  rw [h]
  rfl
/-- on as it is -/
theorem kR_on {c : Code} (h : codeR P Γ c k s Q) : contR P Γ (.code c :: k) s Q := by
  show JoinAt Γ.js c (fun s => codeA P Γ c s (contQ P Γ k Q)) s
  unfold JoinAt
  split
  · exact .inl h
  · exact h
/-- on, seen anew -/
theorem kR_weak {c : Code} {tms : List (Nat × Slot)} {hps : List (Nat × HObj)} (σ : Ren) (hs : Sub σ s tms hps) (hj : Γ.js.contains (headId c) = true) (h : codeR P Γ c k (mkSt tms hps) Q) : contR P Γ (.code c :: k) s Q := by
  show JoinAt Γ.js c (fun s => codeA P Γ c s (contQ P Γ k Q)) s
  unfold JoinAt
  rw [if_pos hj]
  exact .inr ⟨_, _, σ, hs, h⟩
/-- WHERE WAYS MEET: what lies behind is proved once, for states seen anew. -/
theorem seq_join {a b : Code} {α : Type} (R : α → Prop) (tms : α → List (Nat × Slot)) (hps : α → List (Nat × HObj)) (hj : Γ.js.contains (headId b) = true) (hJ : ∀ x, R x → codeR P Γ b k (mkSt (tms x) (hps x)) Q)
    (h : (∀ s' x σ, R x → Sub σ s' (tms x) (hps x) → contR P Γ (.code b :: k) s' Q) → codeR P Γ a (.code b :: k) s Q) : codeR P Γ (.seq a b) k s Q :=
  h fun _ x σ hx hs => kR_weak σ hs hj (hJ x hx)
theorem kR_blk {i : Nat} : contR P Γ (.blk i :: k) s Q = contR P Γ k s Q := rfl
theorem xR_code {i : Nat} {c : Code} : exitR P Γ i (.code c :: k) s Q = exitR P Γ i k s Q := rfl
theorem xR_blk {i j : Nat} : exitR P Γ i (.blk j :: k) s Q = if i = j then contR P Γ k s Q else exitR P Γ i k s Q := rfl
theorem xR_round {α : Type} {tms : α → List (Nat × Slot)} {hps : α → List (Nat × HObj)} {R : α → Prop} {i : Nat} : exitR P Γ i [] s (roundQ P Γ tms hps R k Q) = exitR P Γ i k s Q := rfl
theorem kR_round {α : Type} {tms : α → List (Nat × Slot)} {hps : α → List (Nat × HObj)} {R : α → Prop} : contR P Γ [] s (roundQ P Γ tms hps R k Q) = ∃ y σ, R y ∧ Sub σ s (tms y) (hps y) := rfl
theorem rR_round {α : Type} {tms : α → List (Nat × Slot)} {hps : α → List (Nat × HObj)} {R : α → Prop} : retR s (roundQ P Γ tms hps R k Q) = retR s Q := contQ_ret k
theorem kR_end {rs : List ResultVar} {res : Rz} {hps : List (Nat × HObj)} : contR P Γ [] s (endA P rs res hps) = RetA P rs s res hps := rfl
theorem rR_end {rs : List ResultVar} {res : Rz} {hps : List (Nat × HObj)} : retR s (endA P rs res hps) = RetA P rs s res hps := rfl
theorem oR_nil : opsR P Γ ops [] k s Q = contR P Γ k s Q := rfl
theorem view_no {o : Oper} (h : inL Γ.vs o.dst = false) : viewA Γ o s K = K s := by unfold viewA; rw [h]; rfl
theorem oV {dst : Option Nat} {op : Op} {type : TypeId} {pos : String} {after : Array Edge} {g : Option (Nat × Bool)} (h : inL Γ.vs dst = false) : opsR P Γ ops (⟨dst, op, type, pos, after, g⟩ :: rest) k s Q = opsN P Γ ops ⟨dst, op, type, pos, after, g⟩ rest k s Q := by
  conv => lhs; unfold opsR; unfold regA
  rw [view_no h]
  rfl
/-- ahead of an operation the state is seen anew -/
theorem view_by {o : Oper} {tms : List (Nat × Slot)} {hps : List (Nat × HObj)} (hv : inL Γ.vs o.dst = true) (σ : Ren) (hs : Sub σ s tms hps) (h : opsN P Γ ops o rest k (mkSt tms hps) Q) : opsR P Γ ops (o :: rest) k s Q := by
  unfold opsR regA viewA
  rw [if_pos hv]
  exact .inr ⟨tms, hps, σ, hs, h⟩
theorem oR_move {dst : Option Nat} {type : TypeId} {pos : String} {after : Array Edge} {x : Operand} :
    opsN P Γ ops ⟨dst, .move x, type, pos, after, none⟩ rest k s Q = effR P Γ (opMove [s.ev x]) dst ops rest k s Q := by
  have : opX P Γ s ⟨dst, .move x, type, pos, after, none⟩ = opMove [s.ev x] := by
    unfold opX opE opY
    simp [Op.opds, orE_r, orE_l, Function.comp_def, St.arg]
  unfold opsN stepA
  dsimp only
  rw [this]
  rfl
theorem oR_assign {dst : Option Nat} {type : TypeId} {pos : String} {after : Array Edge} {x : Operand} :
    opsN P Γ ops ⟨dst, .assign x, type, pos, after, none⟩ rest k s Q = effR P Γ (opMove [s.ev x]) dst ops rest k s Q := by
  have : opX P Γ s ⟨dst, .assign x, type, pos, after, none⟩ = opMove [s.ev x] := by
    unfold opX opE opY
    simp [Op.opds, orE_r, orE_l, Function.comp_def, St.arg]
  unfold opsN stepA
  dsimp only
  rw [this]
  rfl
theorem oR_pick {dst : Option Nat} {type : TypeId} {pos : String} {after : Array Edge} {c x y : Operand} :
    opsN P Γ ops ⟨dst, .pick c x y, type, pos, after, none⟩ rest k s Q = effR P Γ (opPick [s.ev c, s.ev x, s.ev y]) dst ops rest k s Q := by
  have : opX P Γ s ⟨dst, .pick c x y, type, pos, after, none⟩ = opPick [s.ev c, s.ev x, s.ev y] := by
    unfold opX opE opY
    simp [Op.opds, orE_r, orE_l, Function.comp_def, St.arg]
  unfold opsN stepA
  dsimp only
  rw [this]
  rfl
theorem oR_alloc {dst : Option Nat} {type : TypeId} {pos : String} {after : Array Edge} {t : TypeId} :
    opsN P Γ ops ⟨dst, .alloc t, type, pos, after, none⟩ rest k s Q = effR P Γ (opAlloc P t dst (isFree s.hp dst) []) dst ops rest k s Q := by
  have : opX P Γ s ⟨dst, .alloc t, type, pos, after, none⟩ = opAlloc P t dst (isFree s.hp dst) [] := by
    unfold opX opE opY
    simp [Op.opds, orE_r, orE_l, Function.comp_def, St.arg]
  unfold opsN stepA
  dsimp only
  rw [this]
  rfl
theorem oR_load {dst : Option Nat} {type : TypeId} {pos : String} {after : Array Edge} {t : TypeId} {x : Operand} :
    opsN P Γ ops ⟨dst, .load t x, type, pos, after, none⟩ rest k s Q = effR P Γ (opLoad P t [s.arg x]) dst ops rest k s Q := by
  have : opX P Γ s ⟨dst, .load t x, type, pos, after, none⟩ = opLoad P t [s.arg x] := by
    unfold opX opE opY
    simp [Op.opds, orE_r, orE_l, Function.comp_def, St.arg]
  unfold opsN stepA
  dsimp only
  rw [this]
  rfl
theorem oR_store {dst : Option Nat} {type : TypeId} {pos : String} {after : Array Edge} {t : TypeId} {x y : Operand} :
    opsN P Γ ops ⟨dst, .store t x y, type, pos, after, none⟩ rest k s Q = effR P Γ (opStore P t [s.arg x, s.arg y]) dst ops rest k s Q := by
  have : opX P Γ s ⟨dst, .store t x y, type, pos, after, none⟩ = opStore P t [s.arg x, s.arg y] := by
    unfold opX opE opY
    simp [Op.opds, orE_r, orE_l, Function.comp_def, St.arg]
  unfold opsN stepA
  dsimp only
  rw [this]
  rfl
theorem oR_nil_ {dst : Option Nat} {type : TypeId} {pos : String} {after : Array Edge} {x : Operand} :
    opsN P Γ ops ⟨dst, .nilCheck x, type, pos, after, none⟩ rest k s Q = effR P Γ (opNil [s.ev x]) dst ops rest k s Q := by
  have : opX P Γ s ⟨dst, .nilCheck x, type, pos, after, none⟩ = opNil [s.ev x] := by
    unfold opX opE opY
    simp [Op.opds, orE_r, orE_l, Function.comp_def, St.arg]
  unfold opsN stepA
  dsimp only
  rw [this]
  rfl
theorem oR_fieldAddr {dst : Option Nat} {type : TypeId} {pos : String} {after : Array Edge} {t : TypeId} {x : Operand} {f : Nat} :
    opsN P Γ ops ⟨dst, .fieldAddr t x f, type, pos, after, none⟩ rest k s Q = effR P Γ (opFieldAddr P t f [s.ev x]) dst ops rest k s Q := by
  have : opX P Γ s ⟨dst, .fieldAddr t x f, type, pos, after, none⟩ = opFieldAddr P t f [s.ev x] := by
    unfold opX opE opY
    simp [Op.opds, orE_r, orE_l, Function.comp_def, St.arg]
  unfold opsN stepA
  dsimp only
  rw [this]
  rfl
theorem oR_field {dst : Option Nat} {type : TypeId} {pos : String} {after : Array Edge} {t : TypeId} {x : Operand} {f : Nat} :
    opsN P Γ ops ⟨dst, .field t x f, type, pos, after, none⟩ rest k s Q = effR P Γ (opField P t f [s.ev x]) dst ops rest k s Q := by
  have : opX P Γ s ⟨dst, .field t x f, type, pos, after, none⟩ = opField P t f [s.ev x] := by
    unfold opX opE opY
    simp [Op.opds, orE_r, orE_l, Function.comp_def, St.arg]
  unfold opsN stepA
  dsimp only
  rw [this]
  rfl
theorem oR_indexAddr {dst : Option Nat} {type : TypeId} {pos : String} {after : Array Edge} {t : TypeId} {x y : Operand} :
    opsN P Γ ops ⟨dst, .indexAddr t x y, type, pos, after, none⟩ rest k s Q = effR P Γ (opIndexAddr P t [s.arg x, s.arg y]) dst ops rest k s Q := by
  have : opX P Γ s ⟨dst, .indexAddr t x y, type, pos, after, none⟩ = opIndexAddr P t [s.arg x, s.arg y] := by
    unfold opX opE opY
    simp [Op.opds, orE_r, orE_l, Function.comp_def, St.arg]
  unfold opsN stepA
  dsimp only
  rw [this]
  rfl
theorem oR_index {dst : Option Nat} {type : TypeId} {pos : String} {after : Array Edge} {t : TypeId} {x y : Operand} :
    opsN P Γ ops ⟨dst, .index t x y, type, pos, after, none⟩ rest k s Q = effR P Γ (opIndex P t [s.ev x, s.ev y]) dst ops rest k s Q := by
  have : opX P Γ s ⟨dst, .index t x y, type, pos, after, none⟩ = opIndex P t [s.ev x, s.ev y] := by
    unfold opX opE opY
    simp [Op.opds, orE_r, orE_l, Function.comp_def, St.arg]
  unfold opsN stepA
  dsimp only
  rw [this]
  rfl
theorem oR_binOp {dst : Option Nat} {type : TypeId} {pos : String} {after : Array Edge} {b : BinOp} {t : TypeId} {x y : Operand} {t' : TypeId} :
    opsN P Γ ops ⟨dst, .binOp b t x y t', type, pos, after, none⟩ rest k s Q = effR P Γ (opBin P b t [s.ev x, s.ev y]) dst ops rest k s Q := by
  have : opX P Γ s ⟨dst, .binOp b t x y t', type, pos, after, none⟩ = opBin P b t [s.ev x, s.ev y] := by
    unfold opX opE opY
    simp [Op.opds, orE_r, orE_l, Function.comp_def, St.arg]
  unfold opsN stepA
  dsimp only
  rw [this]
  rfl
theorem oR_unOp {dst : Option Nat} {type : TypeId} {pos : String} {after : Array Edge} {b : UnOp} {t : TypeId} {x : Operand} :
    opsN P Γ ops ⟨dst, .unOp b t x, type, pos, after, none⟩ rest k s Q = effR P Γ (opUn b [s.ev x]) dst ops rest k s Q := by
  have : opX P Γ s ⟨dst, .unOp b t x, type, pos, after, none⟩ = opUn b [s.ev x] := by
    unfold opX opE opY
    simp [Op.opds, orE_r, orE_l, Function.comp_def, St.arg]
  unfold opsN stepA
  dsimp only
  rw [this]
  rfl
theorem oR_extract {dst : Option Nat} {type : TypeId} {pos : String} {after : Array Edge} {x : Operand} {i : Nat} :
    opsN P Γ ops ⟨dst, .extract x i, type, pos, after, none⟩ rest k s Q = effR P Γ (opExtract i [s.ev x]) dst ops rest k s Q := by
  have : opX P Γ s ⟨dst, .extract x i, type, pos, after, none⟩ = opExtract i [s.ev x] := by
    unfold opX opE opY
    simp [Op.opds, orE_r, orE_l, Function.comp_def, St.arg]
  unfold opsN stepA
  dsimp only
  rw [this]
  rfl
theorem oR_build {dst : Option Nat} {type : TypeId} {pos : String} {after : Array Edge} {t : TypeId} {ps : List (Nat × Operand)} :
    opsN P Γ ops ⟨dst, .build t ps.toArray, type, pos, after, none⟩ rest k s Q = effR P Γ (opBuild P t (ps.map (·.1)) ((ps.map (·.2)).map s.ev)) dst ops rest k s Q := by
  have : opX P Γ s ⟨dst, .build t ps.toArray, type, pos, after, none⟩ = opBuild P t (ps.map (·.1)) ((ps.map (·.2)).map s.ev) := by
    unfold opX opE opY
    simp [Op.opds, orE_r, orE_l, Function.comp_def, St.arg]
  unfold opsN stepA
  dsimp only
  rw [this]
  rfl
theorem oR_buildSlice {dst : Option Nat} {type : TypeId} {pos : String} {after : Array Edge} {t : TypeId} {n : Nat} {ps : List (Nat × Operand)} :
    opsN P Γ ops ⟨dst, .buildSlice t n ps.toArray, type, pos, after, none⟩ rest k s Q = effR P Γ (opBuildSlice P t n (ps.map (·.1)) dst (isFree s.hp dst) ((ps.map (·.2)).map s.arg)) dst ops rest k s Q := by
  have : opX P Γ s ⟨dst, .buildSlice t n ps.toArray, type, pos, after, none⟩ = opBuildSlice P t n (ps.map (·.1)) dst (isFree s.hp dst) ((ps.map (·.2)).map s.arg) := by
    unfold opX opE opY
    simp [Op.opds, orE_r, orE_l, Function.comp_def, St.arg]
  unfold opsN stepA
  dsimp only
  rw [this]
  rfl
theorem oR_convert {dst : Option Nat} {type : TypeId} {pos : String} {after : Array Edge} {t t' : TypeId} {x : Operand} :
    opsN P Γ ops ⟨dst, .convert t t' x, type, pos, after, none⟩ rest k s Q = effR P Γ (orE (opConv P t t' [s.ev x]) (opBytes P t t' [s.arg x])) dst ops rest k s Q := by
  have : opX P Γ s ⟨dst, .convert t t' x, type, pos, after, none⟩ = orE (opConv P t t' [s.ev x]) (opBytes P t t' [s.arg x]) := by
    unfold opX opE opY
    simp [Op.opds, orE_r, orE_l, Function.comp_def, St.arg]
  unfold opsN stepA
  dsimp only
  rw [this]
  rfl
theorem oR_slice {dst : Option Nat} {type : TypeId} {pos : String} {after : Array Edge} {t : TypeId} {x : Operand} {lo hi : Option Operand} :
    opsN P Γ ops ⟨dst, .slice t x lo hi none, type, pos, after, none⟩ rest k s Q = effR P Γ (opSlice P t lo.isSome hi.isSome (s.arg x :: (lo.toList ++ hi.toList).map s.arg)) dst ops rest k s Q := by
  have : opX P Γ s ⟨dst, .slice t x lo hi none, type, pos, after, none⟩ = opSlice P t lo.isSome hi.isSome (s.arg x :: (lo.toList ++ hi.toList).map s.arg) := by
    unfold opX opE opY
    simp [Op.opds, orE_r, orE_l, Function.comp_def, St.arg]
  unfold opsN stepA
  dsimp only
  rw [this]
  rfl
theorem oR_makeMap {dst : Option Nat} {type : TypeId} {pos : String} {after : Array Edge} {t : TypeId} {r : Option Operand} :
    opsN P Γ ops ⟨dst, .makeMap t r, type, pos, after, none⟩ rest k s Q = effR P Γ (opMakeMap P t dst (isFree s.hp dst) (r.toList.map s.arg)) dst ops rest k s Q := by
  have : opX P Γ s ⟨dst, .makeMap t r, type, pos, after, none⟩ = opMakeMap P t dst (isFree s.hp dst) (r.toList.map s.arg) := by
    unfold opX opE opY
    simp [Op.opds, orE_r, orE_l, Function.comp_def, St.arg]
  unfold opsN stepA
  dsimp only
  rw [this]
  rfl
theorem oR_lookup {dst : Option Nat} {type : TypeId} {pos : String} {after : Array Edge} {t : TypeId} {x y : Operand} {ok : Bool} :
    opsN P Γ ops ⟨dst, .lookup t x y ok, type, pos, after, none⟩ rest k s Q = effR P Γ (opLookup P t ok [s.arg x, s.arg y]) dst ops rest k s Q := by
  have : opX P Γ s ⟨dst, .lookup t x y ok, type, pos, after, none⟩ = opLookup P t ok [s.arg x, s.arg y] := by
    unfold opX opE opY
    simp [Op.opds, orE_r, orE_l, Function.comp_def, St.arg]
  unfold opsN stepA
  dsimp only
  rw [this]
  rfl
theorem oR_mapUpdate {dst : Option Nat} {type : TypeId} {pos : String} {after : Array Edge} {t : TypeId} {x y z : Operand} :
    opsN P Γ ops ⟨dst, .mapUpdate t x y z, type, pos, after, none⟩ rest k s Q = effR P Γ (opMapUpdate P t [s.arg x, s.arg y, s.arg z]) dst ops rest k s Q := by
  have : opX P Γ s ⟨dst, .mapUpdate t x y z, type, pos, after, none⟩ = opMapUpdate P t [s.arg x, s.arg y, s.arg z] := by
    unfold opX opE opY
    simp [Op.opds, orE_r, orE_l, Function.comp_def, St.arg]
  unfold opsN stepA
  dsimp only
  rw [this]
  rfl
theorem oR_len {dst : Option Nat} {type : TypeId} {pos : String} {after : Array Edge} {t : TypeId} {x : Operand} :
    opsN P Γ ops ⟨dst, .call ⟨.builtin .len, #[x], #[t]⟩, type, pos, after, none⟩ rest k s Q = effR P Γ (opLen P t [s.arg x]) dst ops rest k s Q := by
  have : opX P Γ s ⟨dst, .call ⟨.builtin .len, #[x], #[t]⟩, type, pos, after, none⟩ = opLen P t [s.arg x] := by
    unfold opX opE opY
    simp [Op.opds, orE_r, orE_l, Function.comp_def, St.arg]
  unfold opsN stepA
  dsimp only
  rw [this]
  rfl
theorem oR_append {dst : Option Nat} {type : TypeId} {pos : String} {after : Array Edge} {t : TypeId} {x y : Operand} :
    opsN P Γ ops ⟨dst, .call ⟨.builtin .append, #[x, y], #[t, t]⟩, type, pos, after, none⟩ rest k s Q = effR P Γ (opAppend P t dst (isFree s.hp dst) [s.arg x, s.arg y]) dst ops rest k s Q := by
  have : opX P Γ s ⟨dst, .call ⟨.builtin .append, #[x, y], #[t, t]⟩, type, pos, after, none⟩ = opAppend P t dst (isFree s.hp dst) [s.arg x, s.arg y] := by
    unfold opX opE opY
    simp [Op.opds, orE_r, orE_l, Function.comp_def, St.arg]
  unfold opsN stepA
  dsimp only
  rw [this]
  rfl
theorem oR_box {dst : Option Nat} {type : TypeId} {pos : String} {after : Array Edge} {t : TypeId} {x : Operand} :
    opsN P Γ ops ⟨dst, .box t x, type, pos, after, none⟩ rest k s Q = effR P Γ (opBox P t dst (isFree s.hp dst) [s.ev x]) dst ops rest k s Q := by
  have : opX P Γ s ⟨dst, .box t x, type, pos, after, none⟩ = opBox P t dst (isFree s.hp dst) [s.ev x] := by
    unfold opX opE opY
    simp [Op.opds, orE_r, orE_l, Function.comp_def, St.arg]
  unfold opsN stepA
  dsimp only
  rw [this]
  rfl
theorem oR_makeFunc {dst : Option Nat} {type : TypeId} {pos : String} {after : Array Edge} {fn : Fn} {first caps : List Operand} :
    opsN P Γ ops ⟨dst, .makeFunc fn first.toArray caps.toArray, type, pos, after, none⟩ rest k s Q = effR P Γ (opMakeFunc fn first.length ((first ++ caps).map s.ev)) dst ops rest k s Q := by
  have : opX P Γ s ⟨dst, .makeFunc fn first.toArray caps.toArray, type, pos, after, none⟩ = opMakeFunc fn first.length ((first ++ caps).map s.ev) := by
    unfold opX opE opY
    simp [Op.opds, orE_r, orE_l, Function.comp_def, St.arg]
  unfold opsN stepA
  dsimp only
  rw [this]
  rfl
theorem oR_min {dst : Option Nat} {type : TypeId} {pos : String} {after : Array Edge} {args : List Operand} {ts : Array TypeId} :
    opsN P Γ ops ⟨dst, .call ⟨.builtin .min, args.toArray, ts⟩, type, pos, after, none⟩ rest k s Q = effR P Γ (opMinMax false (args.map s.ev)) dst ops rest k s Q := by
  have : opX P Γ s ⟨dst, .call ⟨.builtin .min, args.toArray, ts⟩, type, pos, after, none⟩ = opMinMax false (args.map s.ev) := by
    unfold opX opE opY
    simp [Op.opds, orE_r, orE_l, Function.comp_def, St.arg]
  unfold opsN stepA
  dsimp only
  rw [this]
  rfl
theorem oR_max {dst : Option Nat} {type : TypeId} {pos : String} {after : Array Edge} {args : List Operand} {ts : Array TypeId} :
    opsN P Γ ops ⟨dst, .call ⟨.builtin .max, args.toArray, ts⟩, type, pos, after, none⟩ rest k s Q = effR P Γ (opMinMax true (args.map s.ev)) dst ops rest k s Q := by
  have : opX P Γ s ⟨dst, .call ⟨.builtin .max, args.toArray, ts⟩, type, pos, after, none⟩ = opMinMax true (args.map s.ev) := by
    unfold opX opE opY
    simp [Op.opds, orE_r, orE_l, Function.comp_def, St.arg]
  unfold opsN stepA
  dsimp only
  rw [this]
  rfl
theorem oR_makeSlice {dst : Option Nat} {type : TypeId} {pos : String} {after : Array Edge} {t : TypeId} {x y : Operand} :
    opsN P Γ ops ⟨dst, .makeSlice t x y, type, pos, after, none⟩ rest k s Q = effR P Γ (opMakeSlice P t dst (isFree s.hp dst) [s.ev x, s.ev y]) dst ops rest k s Q := by
  have : opX P Γ s ⟨dst, .makeSlice t x y, type, pos, after, none⟩ = opMakeSlice P t dst (isFree s.hp dst) [s.ev x, s.ev y] := by
    unfold opX opE opY
    simp [Op.opds, orE_r, orE_l, Function.comp_def, St.arg]
  unfold opsN stepA
  dsimp only
  rw [this]
  rfl
theorem oR_call {dst : Option Nat} {f : Operand} {args : List Operand} {ts : Array TypeId} {type : TypeId} {pos : String} {after : Array Edge} :
    opsN P Γ ops ⟨dst, .call ⟨.value f, args.toArray, ts⟩, type, pos, after, none⟩ rest k s Q = callR P Γ (s.ev f) (args.map s.ev) ⟨dst, .call ⟨.value f, args.toArray, ts⟩, type, pos, after, none⟩ ops rest k s Q := by
  unfold opsN callR
  apply propext
  constructor
  · intro h _; exact h
  · intro h
    refine h fun c fo h1 h2 => ?_
    injection h1 with h1
    subst h1
    injection h2 with h2
    subst h2
    exact ⟨rfl, rfl⟩
theorem callOK_guard {o o' : Oper} {args : List Slot} {S : HSpec} {τ : List (Nat × Nat)} {vw : List Nat} {news : List (Nat × Nat)} (hd : o'.dst = o.dst) (h : CallOK Γ s o args S τ vw news) : CallOK Γ s o' args S τ vw news := by
  have hf : ∀ k, freshOf o k → freshOf o' k := fun k ⟨d, m, h1, h2⟩ => ⟨d, m, hd.trans h1, h2⟩
  refine ⟨h.args, h.objs, h.nd0, h.nd1, h.nd2, h.nd3, h.tau, h.dom, ?_, h.flat, fun hp => h.pure ?_⟩
  · have := h.fresh
    clear h
    induction news with
    | nil => trivial
    | cons x l ih => exact ⟨⟨this.1.1, this.1.2.1, hf _ this.1.2.2⟩, ih this.2⟩
  · unfold pureAt at hp ⊢; rw [← hd]; exact hp
theorem callStep_guard {o o' : Oper} {e : Eff} (ho : o'.op = o.op) (hd : o'.dst = o.dst) (h : CallStep P Γ s o e) : CallStep P Γ s o' e := by
  obtain ⟨c, fo, f, caps, S, τ, vw, news, h1, h2, h3, h4, h5, h6, rfl⟩ := h
  refine ⟨c, fo, f, caps, S, τ, vw, news, ho.trans h1, h2, h3, h4, h5, callOK_guard hd h6, ?_⟩
  unfold callEff
  rw [hd]
theorem stepA_guard {dst : Option Nat} {op : Op} {type : TypeId} {pos : String} {after : Array Edge} {g g' : Option (Nat × Bool)} {K : Eff → Prop} (h : stepA P Γ s ⟨dst, op, type, pos, after, g⟩ K) : stepA P Γ s ⟨dst, op, type, pos, after, g'⟩ K := by
  unfold stepA at h ⊢
  dsimp only at h ⊢
  split at h
  · obtain ⟨e, h1, h2⟩ := h; exact ⟨e, callStep_guard (o := ⟨dst, _, type, pos, after, g⟩) (o' := ⟨dst, _, type, pos, after, g'⟩) rfl rfl h1, h2⟩
  · exact h
theorem oR_guard {dst : Option Nat} {op : Op} {type : TypeId} {pos : String} {after : Array Edge} {g : Nat} {b : Bool} :
    opsN P Γ ops ⟨dst, op, type, pos, after, some (g, b)⟩ rest k s Q = guardR P Γ (guardSlot ops s g) b ⟨dst, op, type, pos, after, some (g, b)⟩ ops rest k s Q := by
  have h1 : opsN P Γ ops ⟨dst, op, type, pos, after, none⟩ rest k s Q = stepA P Γ s ⟨dst, op, type, pos, after, some (g, b)⟩ fun e => opsR P Γ ops rest k (s.app dst e) Q :=
    propext ⟨stepA_guard, stepA_guard⟩
  unfold guardR
  conv => lhs; unfold opsN
  dsimp only
  generalize guardSlot ops s g = x
  match x with
  | .c (.v (.p (.bool c))) => dsimp only; rw [h1]; rfl
  | .t l => rfl
  | .dead => rfl
  | .c (.g _) => rfl
  | .c (.v .dead) => rfl
  | .c (.v .nil) => rfl
  | .c (.v (.loc _ _)) => rfl
  | .c (.v (.own _)) => rfl
  | .c (.v (.el _ _ _ _)) => rfl
  | .c (.v (.ip _ _)) => rfl
  | .c (.v (.mp _)) => rfl
  | .c (.v (.fn _ _)) => rfl
  | .c (.v (.nb _ _)) => rfl
  | .c (.v (.sv _ _ _ _)) => rfl
  | .c (.v (.p (.int _ _))) => rfl
  | .c (.v (.p (.str _))) => rfl
  | .c (.v (.p (.sl _))) => rfl
  | .c (.v (.p (.oth _))) => rfl
theorem gR_tt {dst : Option Nat} {op : Op} {type : TypeId} {pos : String} {after : Array Edge} {g : Option (Nat × Bool)} : guardR P Γ (.c (.v (.p (.bool true)))) true ⟨dst, op, type, pos, after, g⟩ ops rest k s Q = opsN P Γ ops ⟨dst, op, type, pos, after, none⟩ rest k s Q := by simp [guardR]
theorem gR_ff {dst : Option Nat} {op : Op} {type : TypeId} {pos : String} {after : Array Edge} {g : Option (Nat × Bool)} : guardR P Γ (.c (.v (.p (.bool false)))) false ⟨dst, op, type, pos, after, g⟩ ops rest k s Q = opsN P Γ ops ⟨dst, op, type, pos, after, none⟩ rest k s Q := by simp [guardR]
theorem gR_tf {d : Nat} {op : Op} {type : TypeId} {pos : String} {after : Array Edge} {g : Option (Nat × Bool)} : guardR P Γ (.c (.v (.p (.bool true)))) false ⟨some d, op, type, pos, after, g⟩ ops rest k s Q = opsR P Γ ops rest k { tm := upd s.tm d (.t []), hp := s.hp } Q := by simp [guardR, St.put]
theorem gR_ft {d : Nat} {op : Op} {type : TypeId} {pos : String} {after : Array Edge} {g : Option (Nat × Bool)} : guardR P Γ (.c (.v (.p (.bool false)))) true ⟨some d, op, type, pos, after, g⟩ ops rest k s Q = opsR P Γ ops rest k { tm := upd s.tm d (.t []), hp := s.hp } Q := by simp [guardR, St.put]
theorem gR_t {l : List Cmp} {b : Bool} {d : Nat} {op : Op} {type : TypeId} {pos : String} {after : Array Edge} {g : Option (Nat × Bool)} : guardR P Γ (.t l) b ⟨some d, op, type, pos, after, g⟩ ops rest k s Q = opsR P Γ ops rest k { tm := upd s.tm d (.t []), hp := s.hp } Q := rfl
theorem guard_by {c b : Bool} {o : Oper} (h1 : c = b → guardR P Γ (.c (.v (.p (.bool b)))) b o ops rest k s Q) (h2 : c = !b → guardR P Γ (.c (.v (.p (.bool (!b))))) b o ops rest k s Q) : guardR P Γ (.c (.v (.p (.bool c)))) b o ops rest k s Q := by
  cases c <;> cases b <;> simp_all
theorem eR_mk {c : Prop} {x : Slot} {wr : List (Nat × HObj)} {d : Nat} : effR P Γ (some ⟨c, x, wr⟩) (some d) ops rest k s Q = (c ∧ opsR P Γ ops rest k { tm := upd s.tm d x, hp := updL s.hp wr } Q) := rfl
theorem eR_no {c : Prop} {x : Slot} {wr : List (Nat × HObj)} : effR P Γ (some ⟨c, x, wr⟩) none ops rest k s Q = (c ∧ opsR P Γ ops rest k { tm := s.tm, hp := updL s.hp wr } Q) := rfl
theorem eR_v {x : Slot} {d : Nat} : effR P Γ (some ⟨True, x, []⟩) (some d) ops rest k s Q = opsR P Γ ops rest k { tm := upd s.tm d x, hp := s.hp } Q := by rw [eR_mk]; simp [updL]
theorem condR_t {a b : Code} : condR P Γ (.c (.v (.p (.bool true)))) a b k s Q = codeR P Γ a k s Q := by simp [condR, condA]
theorem condR_f {a b : Code} : condR P Γ (.c (.v (.p (.bool false)))) a b k s Q = codeR P Γ b k s Q := by simp [condR, condA]
theorem cond_by {t : Bool} {a b : Code} (h1 : t = true → codeR P Γ a k s Q) (h2 : t = false → codeR P Γ b k s Q) : condR P Γ (.c (.v (.p (.bool t)))) a b k s Q := ⟨h1, h2⟩
theorem condR_n {l : List (List PV)} {a b : Code} : condR P Γ (.c (.v (.nb true l))) a b k s Q = ((l = [] → codeR P Γ a k s Q) ∧ codeR P Γ b k s Q) := rfl
theorem condR_m {l : List (List PV)} {a b : Code} : condR P Γ (.c (.v (.nb false l))) a b k s Q = (codeR P Γ a k s Q ∧ (l = [] → codeR P Γ b k s Q)) := rfl

/-! ### calls -/
/-- A CALL BY CONTRACT. -/
theorem call_by {cargs : List Slot} {hps hps' : List (Nat × HObj)} {res : Rz} {f : FuncId} {caps : List Nat} {args : List Slot} {d : Nat} {type : TypeId} {pos : String} {after : Array Edge} {fo : Operand} {xs : Array Operand} {ts : Array TypeId} (τ : List (Nat × Nat)) (vw : List Nat) (news : List (Nat × Nat)) (hm : MeetsH P f ⟨cargs, hps, res, hps'⟩) (hcb : callable P f = true)
    (hok : CallOK Γ s ⟨some d, .call ⟨.value fo, xs, ts⟩, type, pos, after, none⟩ (args ++ caps.map fun o => .c (.v (.loc o 0))) ⟨cargs, hps, res, hps'⟩ τ vw news)
    (h : opsR P Γ ops rest k { tm := upd s.tm d (rnZ (τ.map (fun x => (x.2, x.1)) ++ news) res), hp := updL s.hp (hps'.map fun x => (rnN (τ.map (fun x => (x.2, x.1)) ++ news) x.1, rnH (τ.map (fun x => (x.2, x.1)) ++ news) x.2)) } Q) :
    callR P Γ (.c (.v (.fn f caps))) args ⟨some d, .call ⟨.value fo, xs, ts⟩, type, pos, after, none⟩ ops rest k s Q := by
  intro hargs
  obtain ⟨h1, h2⟩ := hargs _ fo rfl rfl
  refine ⟨_, ⟨_, fo, f, caps, ⟨cargs, hps, res, hps'⟩, τ, vw, news, rfl, rfl, h1, hcb, hm, ?_, rfl⟩, trivial, h⟩
  unfold callArgs
  rw [h2]; exact hok

/-! ### loops as functions -/
end
end
/-- a loop: rounds that go on with a new state (inl) until one ends (inr) -/
def iterM {α β : Type} (body : α → Option (α ⊕ β)) : Nat → α → Option β
  | 0, _ => none
  | n + 1, x => match body x with
    | some (.inl y) => iterM body n y
    | some (.inr b) => some b
    | none => none
open Classical in
noncomputable def loopM {α β : Type} (body : α → Option (α ⊕ β)) (x : α) : Option β :=
  if h : ∃ n r, iterM body n x = some r then some (Classical.choose (Classical.choose_spec h)) else none
theorem iterM_le {α β : Type} {body : α → Option (α ⊕ β)} : ∀ {n m : Nat} {x : α} {r : β}, n ≤ m → iterM body n x = some r → iterM body m x = some r
  | 0, _, _, _, _, h => by cases h
  | n + 1, 0, _, _, hm, _ => by omega
  | n + 1, m + 1, x, r, hm, h => by
    unfold iterM at h ⊢
    split at h
    · exact iterM_le (by omega) h
    · exact h
    · cases h
theorem iterM_eq {α β : Type} {body : α → Option (α ⊕ β)} {n m : Nat} {x : α} {r r' : β} (h : iterM body n x = some r) (h' : iterM body m x = some r') : r = r' := by
  have h1 := iterM_le (Nat.le_max_left n m) h
  have h2 := iterM_le (Nat.le_max_right n m) h'
  rw [h1] at h2
  injection h2
theorem loopM_some {α β : Type} {body : α → Option (α ⊕ β)} {x : α} {r : β} : loopM body x = some r ↔ ∃ n, iterM body n x = some r := by
  unfold loopM
  constructor
  · intro h
    split at h
    · rename_i hh
      injection h with h
      exact ⟨_, h ▸ Classical.choose_spec (Classical.choose_spec hh)⟩
    · cases h
  · rintro ⟨n, h⟩
    have hh : ∃ n r, iterM body n x = some r := ⟨n, r, h⟩
    rw [dif_pos hh]
    exact congrArg some (iterM_eq (Classical.choose_spec (Classical.choose_spec hh)) h)
/-- ONE ROUND OF A LOOP. -/
theorem loopM_eq {α β : Type} (body : α → Option (α ⊕ β)) (x : α) : loopM body x = match body x with | some (.inl y) => loopM body y | some (.inr b) => some b | none => none := by
  cases hb : body x with
  | none =>
    cases hl : loopM body x with
    | none => rfl
    | some r =>
      obtain ⟨n, hn⟩ := loopM_some.1 hl
      cases n with
      | zero => cases hn
      | succ n => unfold iterM at hn; rw [hb] at hn; cases hn
  | some o =>
    cases o with
    | inr b => exact loopM_some.2 ⟨1, by unfold iterM; rw [hb]⟩
    | inl y =>
      dsimp only
      cases hl : loopM body y with
      | some r =>
        obtain ⟨n, hn⟩ := loopM_some.1 hl
        exact loopM_some.2 ⟨n + 1, by unfold iterM; rw [hb]; exact hn⟩
      | none =>
        cases hl2 : loopM body x with
        | none => rfl
        | some r =>
          obtain ⟨n, hn⟩ := loopM_some.1 hl2
          cases n with
          | zero => cases hn
          | succ n =>
            unfold iterM at hn
            rw [hb] at hn
            rw [loopM_some.2 ⟨n, hn⟩] at hl
            cases hl
theorem loopM_next {α β : Type} {body : α → Option (α ⊕ β)} {x y : α} (h : body x = some (.inl y)) : loopM body x = loopM body y := by rw [loopM_eq, h]
theorem loopM_done {α β : Type} {body : α → Option (α ⊕ β)} {x : α} {b : β} (h : body x = some (.inr b)) : loopM body x = some b := by rw [loopM_eq, h]
section
variable {P : Program} {Γ : Opt} {s s' : St} {Q : AEx → St → Prop} {k : List Fr}
/-- A LOOP, as a function: the rest is shown for every round of one that ends. -/
theorem loop_m {b : Code} {α β : Type} (body : α → Option (α ⊕ β)) (tms : α → List (Nat × Slot)) (hps : α → List (Nat × HObj)) (x : α) (e : β) (hx : loopM body x = some e) (σ : Ren) (h0 : Sub σ s (tms x) (hps x))
    (h : ∀ x o, body x = some o → (∀ b, o = .inr b → b = e) → codeR P Γ b [] (mkSt (tms x) (hps x)) (roundQ P Γ tms hps (fun y => o = .inl y) k Q)) : LoopR P Γ b k s Q := by
  obtain ⟨n, hn⟩ := loopM_some.1 hx
  refine ⟨{p : α × Nat // iterM body p.2 p.1 = some e}, fun p => tms p.1.1, fun p => hps p.1.1, fun p => p.1.2, ⟨⟨(x, n), hn⟩, σ, h0⟩, ?_⟩
  rintro ⟨⟨x, n⟩, hn⟩
  dsimp only at hn ⊢
  cases n with
  | zero => cases hn
  | succ n =>
    unfold iterM at hn
    cases hb : body x with
    | none => rw [hb] at hn; cases hn
    | some o =>
      rw [hb] at hn
      have := h x o hb (fun b hb' => by subst hb'; injection hn)
      refine codeA_mono b ?_ this
      intro e' s' hq
      cases e' with
      | normal =>
        obtain ⟨y, σ, hy, h1⟩ := (show ∃ y σ, o = .inl y ∧ Sub σ s' (tms y) (hps y) from hq)
        subst hy
        exact ⟨⟨(y, n), hn⟩, σ, h1, Nat.lt_succ_self n⟩
      | exit i => exact hq
      | ret => exact hq
end
theorem upd_app {α : Type} (f : Nat → α) (k j : Nat) (v : α) : upd f k v j = if j = k then v else f j := rfl
theorem upd_eq {α : Type} (f : Nat → α) (k : Nat) (v : α) : upd f k v k = v := by simp [upd]
theorem upd_far {α : Type} (f : Nat → α) {k j : Nat} (v : α) (h : j ≠ k) : upd f k v j = f j := by simp [upd, h]
theorem cL_i {n : Int} : constLeaf (.int .i64 n) = if -9223372036854775808 ≤ n ∧ n ≤ 9223372036854775807 then .p (.int .i64 n) else .dead := by
  simp [constLeaf, IntKind.min, IntKind.max, IntKind.signed, IntKind.bits]
theorem cS_v {k : IntKind} {n : Int} : constSlot (.int k n) = .c (.v (constLeaf (.int k n))) := rfl
theorem cS_i {n : Int} (h1 : -9223372036854775808 ≤ n) (h2 : n ≤ 9223372036854775807) : constSlot (.int .i64 n) = .c (.v (.p (.int .i64 n))) := by
  rw [cS_v, cL_i, if_pos ⟨h1, h2⟩]
theorem cS_int {k : IntKind} {n : Int} (h : k.min ≤ n ∧ n ≤ k.max) : constSlot (.int k n) = .c (.v (.p (.int k n))) := by
  show Slot.c (.v (if k.min ≤ n ∧ n ≤ k.max then Leaf.p (PV.int k n) else .dead)) = _
  rw [if_pos h]
theorem cS_u8 {n : Int} (h1 : 0 ≤ n) (h2 : n ≤ 255) : constSlot (.int .u8 n) = .c (.v (.p (.int .u8 n))) := cS_int (by simp [IntKind.min, IntKind.max, IntKind.signed, IntKind.bits]; omega)
theorem cS_i32 {n : Int} (h1 : -2147483648 ≤ n) (h2 : n ≤ 2147483647) : constSlot (.int .i32 n) = .c (.v (.p (.int .i32 n))) := cS_int (by simp [IntKind.min, IntKind.max, IntKind.signed, IntKind.bits]; omega)
theorem cS_u32 {n : Int} (h1 : 0 ≤ n) (h2 : n ≤ 4294967295) : constSlot (.int .u32 n) = .c (.v (.p (.int .u32 n))) := cS_int (by simp [IntKind.min, IntKind.max, IntKind.signed, IntKind.bits]; omega)
theorem cS_u64 {n : Int} (h1 : 0 ≤ n) (h2 : n ≤ 18446744073709551615) : constSlot (.int .u64 n) = .c (.v (.p (.int .u64 n))) := cS_int (by simp [IntKind.min, IntKind.max, IntKind.signed, IntKind.bits]; omega)
theorem cS_b {b : Bool} : constSlot (.bool b) = .c (.v (.p (.bool b))) := rfl
theorem cS_s {l : List UInt8} (h : l.length ≤ 9223372036854775807) : constSlot (.string ⟨l.toArray⟩) = .c (.v (.p (.str ⟨l.toArray⟩))) := by
  have : (⟨l.toArray⟩ : ByteArray).size ≤ 9223372036854775807 := h
  show Slot.c (.v (if _ then _ else _)) = _
  rw [if_pos this]
theorem cS_n : constSlot (.slice none 0 0) = .c (.v .nil) := rfl
theorem cS_p : constSlot (.pointer none) = .c (.v (.p (.oth (.pointer none)))) := rfl
theorem inK_i64 {n : Int} : inK .i64 n = (-9223372036854775808 ≤ n ∧ n ≤ 9223372036854775807) := by
  simp [inK, IntKind.min, IntKind.max, IntKind.signed, IntKind.bits]

/-! ### lookups -/
def argOf (x : Slot) (hp : Hp) : Arg := (x, x.ids.map hp)
theorem argOf_fst {x : Slot} {hp : Hp} : (argOf x hp).1 = x := rfl
theorem arg_of {s : St} {x : Operand} : s.arg x = argOf (s.ev x) s.hp := rfl
theorem ev_tmp {s : St} {t : Nat} : s.ev (.tmp t) = s.tm t := by cases t <;> rfl
theorem ev_const {s : St} {v : Value} : s.ev (.const v) = constSlot v := rfl
theorem ev_func {s : St} {f : FuncId} : s.ev (.func f) = .c (.v (.fn f [])) := rfl
theorem tm_mk {tm : Nat → Slot} {hp : Hp} {t : Nat} : St.tm ⟨tm, hp⟩ t = tm t := rfl
theorem hp_mk {tm : Nat → Slot} {hp : Hp} {t : Nat} : St.hp ⟨tm, hp⟩ t = hp t := rfl
theorem tm_mkSt {tms : List (Nat × Slot)} {hps : List (Nat × HObj)} {t : Nat} : (mkSt tms hps).tm t = (lookL tms t).getD .dead := rfl
theorem hp_mkSt {tms : List (Nat × Slot)} {hps : List (Nat × HObj)} {t : Nat} : (mkSt tms hps).hp t = lookL hps t := rfl
theorem lookL_cons {α : Type} {k j : Nat} {v : α} {r : List (Nat × α)} : lookL ((k, v) :: r) j = if j = k then some v else lookL r j := rfl
theorem lookL_nil {α : Type} {j : Nat} : lookL ([] : List (Nat × α)) j = none := rfl
theorem updL_nil {hp : Hp} : updL hp [] = hp := rfl
theorem updL_cons {hp : Hp} {k : Nat} {h : HObj} {r : List (Nat × HObj)} : updL hp ((k, h) :: r) = updL (upd hp k (some h)) r := rfl
section
variable {hp : Hp}
theorem aO_p {p : PV} : argOf (.c (.v (.p p))) hp = (.c (.v (.p p)), []) := rfl
theorem aO_n : argOf (.c (.v .nil)) hp = (.c (.v .nil), []) := rfl
theorem aO_o {o : Nat} : argOf (.c (.v (.own o))) hp = (.c (.v (.own o)), [hp o]) := rfl
theorem aO_l {o f : Nat} : argOf (.c (.v (.loc o f))) hp = (.c (.v (.loc o f)), [hp o]) := rfl
theorem aO_e {o i f z : Nat} : argOf (.c (.v (.el o i f z))) hp = (.c (.v (.el o i f z)), [hp o]) := rfl
theorem aO_i {cs : List PV} {f : Nat} : argOf (.c (.v (.ip cs f))) hp = (.c (.v (.ip cs f)), []) := rfl
theorem aO_f {f : FuncId} {caps : List Nat} : argOf (.c (.v (.fn f caps))) hp = (.c (.v (.fn f caps)), caps.map hp) := by simp [argOf, Slot.ids, Cmp.ids, Cmp.leaves, Leaf.ids]
theorem aO_g {xs : List Leaf} : argOf (.c (.g xs)) hp = (.c (.g xs), (xs.flatMap Leaf.ids).map hp) := rfl
theorem aO_t {l : List Cmp} : argOf (.t l) hp = (.t l, (l.flatMap Cmp.ids).map hp) := rfl
theorem aO_m {o : Nat} : argOf (.c (.v (.mp o))) hp = (.c (.v (.mp o)), [hp o]) := rfl
theorem aO_b {p : Bool} {l : List (List PV)} : argOf (.c (.v (.nb p l))) hp = (.c (.v (.nb p l)), []) := rfl
theorem aO_sv {o a b z : Nat} : argOf (.c (.v (.sv o a b z))) hp = (.c (.v (.sv o a b z)), [hp o]) := rfl
theorem aO_d : argOf .dead hp = (.dead, []) := rfl
end
theorem free_some {hp : Hp} {d : Nat} : isFree hp (some d) = ((hp d).isNone && decide (d < 1000000)) := rfl
theorem pk_b {c x y : Bool} : opPick [.c (.v (.p (.bool c))), .c (.v (.p (.bool x))), .c (.v (.p (.bool y)))] = val (.p (.bool (bif c then x else y))) := rfl
theorem pk_t {x y : Slot} : opPick [.c (.v (.p (.bool true))), x, y] = val x := by
  unfold opPick
  split <;> rename_i h
  · simp only [List.cons.injEq, Slot.c.injEq, Cmp.v.injEq, Leaf.p.injEq, PV.bool.injEq] at h
    obtain ⟨h1, h2, h3, _⟩ := h
    subst h1 h2
    rfl
  · simp only [List.cons.injEq, Slot.c.injEq, Cmp.v.injEq, Leaf.p.injEq, PV.bool.injEq] at h
    obtain ⟨h1, h2, h3, _⟩ := h
    subst h1 h2
    rfl
  · exact (h _ _ _ rfl).elim
theorem pk_f {x y : Slot} : opPick [.c (.v (.p (.bool false))), x, y] = val y := by
  unfold opPick
  split <;> rename_i h
  · simp only [List.cons.injEq, Slot.c.injEq, Cmp.v.injEq, Leaf.p.injEq, PV.bool.injEq] at h
    obtain ⟨h1, h2, h3, _⟩ := h
    subst h1 h3
    rfl
  · simp only [List.cons.injEq, Slot.c.injEq, Cmp.v.injEq, Leaf.p.injEq, PV.bool.injEq] at h
    obtain ⟨h1, h2, h3, _⟩ := h
    subst h1 h3
    rfl
  · exact (h _ _ _ rfl).elim
end Go.Lad
