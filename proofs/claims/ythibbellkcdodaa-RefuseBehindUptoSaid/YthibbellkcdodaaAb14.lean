/-
  Code and functions: from a formula over abstract states to a contract.
-/
import Derived.Test.YthibbellkcdodaaAb13
namespace Go.Lad
set_option linter.unusedVariables false
set_option linter.unusedSimpArgs false
open Go.RowKit

inductive AEx where
  | normal
  | exit (id : Nat)
  | ret
/-- A LOOP: its head's states (temporaries and objects), numbered by what a round lowers; ρ: how the objects are numbered anew. -/
def LoopA (B : St → (AEx → St → Prop) → Prop) (s : St) (Q : AEx → St → Prop) : Prop :=
  ∃ (α : Type) (tms : α → List (Nat × Slot)) (hps : α → List (Nat × HObj)) (μ : α → Nat), (∃ x σ, Sub σ s (tms x) (hps x)) ∧
    ∀ x, B (mkSt (tms x) (hps x)) fun e s' => match e with
      | .normal => ∃ y σ, Sub σ s' (tms y) (hps y) ∧ μ y < μ x
      | e => Q e s'
/-- a state goes on as it is, or seen anew (where ways meet) -/
def JoinS (K : St → Prop) (s : St) : Prop := K s ∨ ∃ tms hps σ, Sub σ s tms hps ∧ K (mkSt tms hps)
/-- a code's first region -/
def headId : Code → Nat
  | .region id _ _ => id
  | .seq a _ => headId a
  | .block _ b => headId b
  | .loop b => headId b
  | .scope b => headId b
  | _ => 1000000
/-- the places where ways meet (js: their first regions' numbers) -/
def JoinAt (js : List Nat) (b : Code) (K : St → Prop) (s : St) : Prop := if js.contains (headId b) then JoinS K s else K s
def thenA (K : St → Prop) (Q : AEx → St → Prop) : AEx → St → Prop
  | .normal, s => K s
  | e, s => Q e s
def blockA (id : Nat) (Q : AEx → St → Prop) : AEx → St → Prop
  | .exit i, s => if i = id then Q .normal s else Q (.exit i) s
  | e, s => Q e s
def condA (x : Slot) (A B : Prop) : Prop :=
  match x with
  | .c (.v (.p (.bool t))) => (t = true → A) ∧ (t = false → B)
  | .c (.v (.nb p l)) => if p then (l = [] → A) ∧ B else A ∧ (l = [] → B)
  | _ => False
def codeA (P : Program) (Γ : Opt) : Code → St → (AEx → St → Prop) → Prop
  | .skip, s, Q => Q .normal s
  | .region _ ops _, s, Q => regA P Γ ops.toList ops.toList s (fun s' => Q .normal s')
  | .seq a b, s, Q => codeA P Γ a s (thenA (JoinAt Γ.js b fun s' => codeA P Γ b s' Q) Q)
  | .cond c a b, s, Q => condA (s.ev c) (codeA P Γ a s Q) (codeA P Γ b s Q)
  | .block id b, s, Q => codeA P Γ b s (blockA id Q)
  | .loop b, s, Q => LoopA (codeA P Γ b) s Q
  | .exit id, s, Q => Q (.exit id) s
  | .ret, s, Q => Q .ret s
  | .scope b, s, Q => codeA P Γ b s Q
  | _, _, _ => False
/-- the temporaries are there; what draws its order may be taken in the text's -/
def codeOK (Γ : Opt) (n : Nat) : Code → Bool
  | .region _ ops draw => ops.toList.all (fun o => match o.dst with | some d => decide (d < n) && decide (d < 10000) | none => true) && (!draw || okDraw Γ ops.toList)
  | .seq a b => codeOK Γ n a && codeOK Γ n b
  | .cond _ a b => codeOK Γ n a && codeOK Γ n b
  | .block _ b => codeOK Γ n b
  | .loop b => codeOK Γ n b
  | .scope b => codeOK Γ n b
  | _ => true

section
variable {P : Program} {Γ : Opt} {s : St} {w0 : World} {χ0 : Col} {T0 : Ctx} {n : Nat} {a : Act} {w : World}

def liftQ (w0 : World) (χ0 : Col) (T0 : Ctx) (n : Nat) (Q : AEx → St → Prop) : Exit → Act → World → Prop
  | .normal, a, w => ∃ s, Q .normal s ∧ After w0 χ0 T0 n s a w
  | .exit i, a, w => ∃ s, Q (.exit i) s ∧ After w0 χ0 T0 n s a w
  | .ret, a, w => ∃ s, Q .ret s ∧ After w0 χ0 T0 n s a w
  | _, _, _ => False
theorem code_ok (hm : P.follows .mixedOrders = true) (hχ : ∀ b, χ0 b ≤ 1) : ∀ (c : Code) (s : St) (Q : AEx → St → Prop) (a : Act) (w : World), codeOK Γ n c = true → codeA P Γ c s Q → After w0 χ0 T0 n s a w → c.wp P (liftQ w0 χ0 T0 n Q) a w
  | .skip, s, Q, a, w, _, h, ha => wp_skip ⟨s, h, ha⟩
  | .region id ops draw, s, Q, a, w, hk, h, ha => by
    unfold codeOK at hk
    rw [Bool.and_eq_true] at hk
    have hdst : ∀ o ∈ ops.toList, ∀ k : Nat, o.dst = some k → k < n ∧ k < 10000 := fun o ho k hd => by
      have := List.all_eq_true.1 hk.1 o ho
      rw [hd] at this
      simpa using this
    have := region_ok (ops := ops.toList) (id := id) (draw := draw) (Q := liftQ w0 χ0 T0 n Q) hχ hm (fun o ho k hd => (hdst o ho k hd).1) (fun o ho k hd => (hdst o ho k hd).2) (K := fun s' => Q .normal s') (fun s a w h ha => ⟨s, h, ha⟩) ha
      (fun hd => by have h2 := hk.2; rw [hd] at h2; simpa using h2) h
    simpa using this
  | .seq x y, s, Q, a, w, hk, h, ha => by
    unfold codeOK at hk
    rw [Bool.and_eq_true] at hk
    refine wp_seq (wp_mono (code_ok hm hχ x s _ a w hk.1 h ha) fun e a' w' hq => ?_)
    cases e with
    | normal =>
      obtain ⟨s', h1, h2⟩ := hq
      have h1 : JoinS (fun s' => codeA P Γ y s' Q) s' := by
        have h1 : (if Γ.js.contains (headId y) then JoinS (fun s' => codeA P Γ y s' Q) s' else codeA P Γ y s' Q) := h1
        split at h1
        · exact h1
        · exact .inl h1
      rcases h1 with h1 | ⟨tms, hps, σ, h1, h3⟩
      · exact code_ok hm hχ y s' Q a' w' hk.2 h1 h2
      · exact code_ok hm hχ y _ Q a' w' hk.2 h3 (Sub_ok hχ h1 h2)
    | exit i => exact hq
    | ret => exact hq
    | goto l => exact hq
    | panic c => exact hq
    | outgrown => exact hq
  | .cond c x y, s, Q, a, w, hk, h, ha => by
    unfold codeOK at hk
    rw [Bool.and_eq_true] at hk
    unfold codeA at h
    obtain ⟨hn, G, r⟩ := ha
    have hv := r.ev c
    unfold condA at h
    split at h
    · rename_i t hs
      rw [hs] at hv
      exact wp_cond_split (rd_bool hv) (fun ht => code_ok hm hχ x s Q a w hk.1 (h.1 ht) ⟨hn, G, r⟩) (fun ht => code_ok hm hχ y s Q a w hk.2 (h.2 ht) ⟨hn, G, r⟩)
    · rename_i p l hs
      rw [hs] at hv
      obtain ⟨b, hb, hl⟩ := LRd.val hv
      cases p with
      | true =>
        simp only [if_true] at h
        exact wp_cond_split hb (fun ht => code_ok hm hχ x s Q a w hk.1 (h.1 (hl ht)) ⟨hn, G, r⟩) (fun ht => code_ok hm hχ y s Q a w hk.2 h.2 ⟨hn, G, r⟩)
      | false =>
        simp only [Bool.false_eq_true, if_false] at h
        exact wp_cond_split hb (fun ht => code_ok hm hχ x s Q a w hk.1 h.1 ⟨hn, G, r⟩) (fun ht => code_ok hm hχ y s Q a w hk.2 (h.2 (hl ht)) ⟨hn, G, r⟩)
    · exact h.elim
  | .block id b, s, Q, a, w, hk, h, ha => by
    unfold codeOK at hk
    refine wp_block (wp_mono (code_ok hm hχ b s _ a w hk h ha) fun e a' w' hq => ?_)
    cases e with
    | normal => exact hq
    | exit i =>
      obtain ⟨s', h1, h2⟩ := hq
      have h1 : (if i = id then Q .normal s' else Q (.exit i) s') := h1
      simp only [Exit.inBlock]
      split
      · rename_i hi; rw [if_pos hi] at h1; exact ⟨s', h1, h2⟩
      · rename_i hi; rw [if_neg hi] at h1; exact ⟨s', h1, h2⟩
    | ret => exact hq
    | goto l => exact hq
    | panic c => exact hq
    | outgrown => exact hq
  | .loop b, s, Q, a, w, hk, h, ha => by
    unfold codeOK at hk
    obtain ⟨α, tms, hps, μ, ⟨x, σ, hx⟩, hround⟩ := h
    refine wp_loop_ghost (fun k a w => ∃ x, μ x = k ∧ After w0 χ0 T0 n (mkSt (tms x) (hps x)) a w) (μ x) ⟨x, rfl, Sub_ok hχ hx ha⟩ ?_
    rintro k a w ⟨x, rfl, hax⟩
    refine wp_mono (code_ok hm hχ b _ _ a w hk (hround x) hax) fun e a' w' hq => ?_
    cases e with
    | normal =>
      obtain ⟨s', ⟨y, σ', h1, h2⟩, h3⟩ := hq
      exact ⟨μ y, h2, y, rfl, Sub_ok hχ h1 h3⟩
    | exit i => exact hq
    | ret => exact hq
    | goto l => exact hq
    | panic c => exact hq
    | outgrown => exact hq
  | .exit id, s, Q, a, w, _, h, ha => wp_exit ⟨s, h, ha⟩
  | .ret, s, Q, a, w, _, h, ha => wp_ret ⟨s, h, ha⟩
  | .scope b, s, Q, a, w, hk, h, ha => by
    unfold codeOK at hk
    refine wp_scope_straight (wp_mono (code_ok hm hχ b s Q a w hk h ha) fun e a' w' hq => ?_)
    cases e <;> exact hq
  | .rangeFunc _ _ _ _, _, _, _, _, _, h, _ => h.elim
  | .label _, _, _, _, _, _, h, _ => h.elim
  | .goto _, _, _, _, _, _, h, _ => h.elim
  | .refuse _, _, _, _, _, _, h, _ => h.elim
end

/-! ### results -/
def resCmp (P : Program) (s : St) : ResultVar → Option Cmp
  | .tmp t => match s.tm t with | .c c => some c | _ => none
  | .cell t ty => match s.tm t with
    | .c (.v (.loc o off)) => match s.hp o, tySize P ty with
      | some (.box _ cs), some n => cutL cs off n (tyAgg P ty)
      | _, _ => none
    | _ => none
def resCmps (P : Program) (s : St) : List ResultVar → Option (List Cmp)
  | [] => some []
  | r :: rs => match resCmp P s r, resCmps P s rs with | some c, some l => some (c :: l) | _, _ => none
def resTms : Rz → List (Nat × Slot)
  | .one c => [(0, .c c)]
  | .tup l => l.zipIdx.map fun x => (x.2, .c x.1)
def cmpSt (cs : List Cmp) (hp : Hp) : St := { tm := fun i => match cs[i]? with | some c => .c c | none => .dead, hp := hp }
/-- WHAT IS RETURNED: the results, and the objects, seen as the contract says. -/
def RetA (P : Program) (rs : List ResultVar) (s : St) (res : Rz) (hps' : List (Nat × HObj)) : Prop :=
  match resCmps P s rs with
  | none => False
  | some cs => (match res with | .one _ => True | .tup l => l.length ≠ 1) ∧ cs.length = res.comps.length ∧ ∃ σ, Sub σ (cmpSt cs s.hp) (resTms res) hps'

section
variable {P : Program} {Γ : Opt} {s : St} {w0 : World} {χ0 : Col} {T0 : Ctx} {n : Nat} {a : Act} {w : World} {G : Gh}

def rvSem (tmps : Array Value) : ResultVar → Sem Value
  | .tmp t => pure (tmps.getD t undef)
  | .cell a t => do loadVar t (← asAddr (tmps.getD a undef))
def oneOf : List Value → Value
  | [v] => v
  | vs => .tuple vs.toArray
theorem run_results {vs : List Value} {fn : Func} (tmps : Array Value) (h : (fn.results.toList.mapM (rvSem tmps)).run P w = .ok vs w) : (results fn tmps).run P w = .ok (oneOf vs) w := by
  have e : results fn tmps = (do let vs ← fn.results.mapM (rvSem tmps); pure (if h : vs.size = 1 then vs[0] else .tuple vs)) := rfl
  have e2 : (fn.results.mapM (rvSem tmps)).run P w = .ok vs.toArray w := by
    rw [show fn.results = fn.results.toList.toArray from (Array.toArray_toList).symm, List.mapM_toArray, Sem.run_map, h]
    rfl
  rw [e, Sem.run_bind, e2]
  simp only [Result.andThen_ok, Sem.run_pure]
  cases vs with
  | nil => rfl
  | cons v vs => cases vs <;> rfl
theorem resCmp_rd {rv : ResultVar} {c : Cmp} (r : RepG w0 χ0 T0 s a w G) (h : resCmp P s rv = some c) : ∃ v, CRd G s.hp w c v ∧ (rvSem a.tmps rv).run P w = .ok v w := by
  cases rv with
  | tmp t =>
    have hv := r.tms t
    simp only [resCmp] at h
    split at h
    · rename_i c' hs
      injection h with h
      subst h
      rw [hs] at hv
      exact ⟨_, hv, rfl⟩
    · cases h
  | cell t ty =>
    have hv := r.tms t
    simp only [resCmp] at h
    split at h
    · rename_i o off hs
      rw [hs] at hv
      split at h
      · rename_i bt cs k ho hn
        obtain ⟨vs, hb, _, hall⟩ := r.objs o _ ho
        obtain ⟨v, g1, g2⟩ := cutL_rd (b := G.bl o) (o2 := 0) h hall hn (tySize_und hn) (fun j v hj => by rw [hb.cell]; simpa using hj)
        have hp : a.tmps.getD t undef = ptr (G.bl o) off := LRd.val hv
        refine ⟨v, g1, ?_⟩
        rw [Nat.zero_add] at g2
        simpa [rvSem, hp, ptr, asAddr, Instr.loadAt, Instr.sureAddr] using g2
      · cases h
    · cases h
theorem resCmps_rd (r : RepG w0 χ0 T0 s a w G) : ∀ (rs : List ResultVar) (cs : List Cmp), resCmps P s rs = some cs → ∃ vs : List Value, All2 (CRd G s.hp w) cs vs ∧
    (rs.mapM (rvSem a.tmps)).run P w = .ok vs w
  | [], cs, h => by
    simp [resCmps] at h
    subst h
    exact ⟨[], ⟨rfl, by simp⟩, by simp⟩
  | x :: rs, cs, h => by
    unfold resCmps at h
    split at h
    · rename_i c l h1 h2
      injection h with h
      subst h
      obtain ⟨v, g1, g2⟩ := resCmp_rd r h1
      obtain ⟨vs, g3, g4⟩ := resCmps_rd r rs l h2
      refine ⟨v :: vs, ⟨by simp [g3.1], fun i a b ha hb => ?_⟩, ?_⟩
      · cases i with
        | zero => simp at ha hb; subst ha hb; exact g1
        | succ i => exact g3.2 i a b (by simpa using ha) (by simpa using hb)
      · rw [List.mapM_cons]
        simp only [Sem.run_bind, g2, Result.andThen_ok, g4, Sem.run_pure]
    · cases h


def endA (P : Program) (rs : List ResultVar) (res : Rz) (hps' : List (Nat × HObj)) : AEx → St → Prop
  | .exit _, _ => False
  | _, s => RetA P rs s res hps'
def argTms : Nat → List Slot → List (Nat × Slot)
  | _, [] => []
  | i, x :: r => (i, x) :: argTms (i + 1) r
def st0 (S : HSpec) : St := mkSt (argTms 0 S.args) S.hps
theorem argTms_look : ∀ (args : List Slot) (i t : Nat), lookL (argTms i args) t = if i ≤ t then args[t - i]? else none
  | [], i, t => by simp [argTms, lookL]
  | x :: r, i, t => by
    simp only [argTms, lookL]
    by_cases h : t = i
    · subst h; simp
    · rw [if_neg h, argTms_look r (i + 1) t]
      by_cases h2 : i ≤ t
      · rw [if_pos (by omega), if_pos h2]
        have : t - i = (t - (i + 1)) + 1 := by omega
        rw [this, List.getElem?_cons_succ]
      · rw [if_neg (by omega), if_neg h2]
theorem resTms_get {res : Rz} {i : Nat} {c : Cmp} (h : res.comps[i]? = some c) : (i, Slot.c c) ∈ resTms res := by
  cases res with
  | one c' =>
    cases i with
    | zero => simp [Rz.comps] at h; subst h; simp [resTms]
    | succ i => simp [Rz.comps] at h
  | tup l => exact List.mem_map.2 ⟨(c, i), List.mem_zipIdx_iff_getElem?.2 h, rfl⟩

/-- A FUNCTION'S CONTRACT OUT OF ITS CODE. -/
theorem meets_of_code {f : FuncId} {fn : Func} {c : Code} {S : HSpec} (hm : P.follows .mixedOrders = true) (hf : P.funcs[f]? = some fn) (hb : fn.body = some c) (hk : codeOK Γ fn.ntmps c = true) (hn : S.args.length ≤ fn.ntmps)
    (h : codeA P Γ c (st0 S) (endA P fn.results.toList S.res S.hps')) : MeetsH P f S := by
  intro w G0 vs hnorm hglob hargs hobjs
  refine calls_of_wp hf hb ?_
  have hlen : vs.length = S.args.length := hargs.1.symm
  let χ0 : Col := fun b => if G0.χ b ≤ 1 then G0.χ b else 0
  let T0 : Ctx := ⟨fun b => 2 ≤ G0.χ b, G0.bl, G0.hv⟩
  have hχ : ∀ b, χ0 b ≤ 1 := fun b => by
    show (if G0.χ b ≤ 1 then G0.χ b else 0) ≤ 1
    split <;> omega
  have hrep : After w χ0 T0 fn.ntmps (st0 S) { tmps := vs.toArray ++ Array.replicate (fn.ntmps - vs.toArray.size) undef, defers := [] } w := by
    refine ⟨by simp; omega, G0, rfl, rfl, rfl, Nat.le_refl _, fun _ _ _ => rfl, fun b _ hT => ?_, fun b hb => .inl hb, fun o _ => ⟨rfl, rfl⟩, hnorm, rfl, fun t => ?_, hobjs, fun g h => ?_, fun g h h2 => ?_⟩
    · have hT : ¬ 2 ≤ G0.χ b := hT
      exact (if_pos (by omega)).symm
    · show SRd G0 _ w ((lookL (argTms 0 S.args) t).getD .dead) _
      rw [argTms_look, if_pos (Nat.zero_le _), Nat.sub_zero]
      cases ht : S.args[t]? with
      | none => trivial
      | some x =>
        obtain ⟨v, hv, hr⟩ := hargs.get ht
        have hlt : t < vs.length := (List.getElem?_eq_some_iff.1 hv).1
        have e : (vs.toArray ++ Array.replicate (fn.ntmps - vs.toArray.size) undef).getD t undef = v := by
          rw [Array.getD_eq_getD_getElem?, Array.getElem?_append_left (by simpa using hlt)]
          simp [hv]
        rw [e]; exact hr
    · obtain ⟨h1, h2⟩ := hglob g h
      exact ⟨(if_pos (by omega)).trans h1, h2⟩
    · have h2 : 2 ≤ G0.χ g := h2
      have := (hglob g h).1
      omega
  have hwp := code_ok hm hχ c (st0 S) _ _ w hk h hrep
  have fin : ∀ (s : St) (a : Act) (w' : World), RetA P fn.results.toList s S.res S.hps' → After w χ0 T0 fn.ntmps s a w' →
      a.defers = [] ∧ ∃ v, (results fn a.tmps).run P w' = .ok v w' ∧ ∃ (G' : Gh) (v' : Value) (us : List Value), Ending.returned v = .returned v' ∧ S.res.val v' us ∧ w'.os = w.os ∧ w'.tape = w.tape ∧ w'.output = w.output ∧ w.heap.size ≤ w'.heap.size ∧
      (∀ b, b < w.heap.size → G0.χ b ≤ 1 → w'.heap[b]? = w.heap[b]? ∧ G'.χ b = G0.χ b) ∧ (∀ b, 2 ≤ G'.χ b → 2 ≤ G0.χ b ∨ w.heap.size ≤ b) ∧ (∀ o, 1000000 ≤ o → G'.bl o = G0.bl o ∧ G'.hv o = G0.hv o) ∧ Norm G'.χ w' ∧
      All2 (CRd G' (hpL S.hps') w') S.res.comps us ∧ (∀ o h, hpL S.hps' o = some h → HRd G' (hpL S.hps') w' o h) := by
    intro s a w' hret ⟨_, G', r⟩
    unfold RetA at hret
    split at hret
    · exact hret.elim
    · rename_i cs hcs
      obtain ⟨hsh, hcl, σ, ⟨⟨hσ, hv0, hp0, hpins⟩, ht, hh⟩⟩ := hret
      obtain ⟨us, hus, hrun⟩ := resCmps_rd r _ _ hcs
      have hobj' : ∀ o h, (cmpSt cs s.hp).hp o = some h → HRd G' (cmpSt cs s.hp).hp w' o h := r.objs
      have key : ∀ o2, 1000000 ≤ o2 → ∀ o, lookL (σ.m.map fun x => (x.2, x.1)) o2 = some o → o = o2 := fun o2 ho2 o hl => by
        obtain ⟨x, hx, he⟩ := List.mem_map.1 (lookL_mem hl)
        injection he with e1 e2
        have := allP_mem hpins x hx (by omega)
        omega
      refine ⟨r.defers, _, run_results a.tmps hrun, renGh σ G', _, us, rfl, ?_, r.os, r.tape, r.output, r.size, fun b hb h1 => ?_, fun b hb => ?_, fun o ho => ?_, fun b hb => ren_zero (r.norm b hb), ?_, fun o h ho => ?_⟩
      · cases hrs : S.res with
        | one c' =>
          rw [hrs] at hcl
          have : us.length = 1 := by rw [← hus.1, hcl]; rfl
          cases us with
          | nil => simp at this
          | cons u us => cases us with
            | nil => rfl
            | cons _ _ => simp at this
        | tup l =>
          rw [hrs] at hsh hcl
          have hl : us.length ≠ 1 := by rw [← hus.1, hcl]; exact hsh
          cases us with
          | nil => rfl
          | cons u us => cases us with
            | nil => simp at hl
            | cons _ _ => rfl
      · have hT : ¬ T0.T b := fun h => by have h : 2 ≤ G0.χ b := h; omega
        refine ⟨r.old b hb hT, ?_⟩
        have h2 : G'.χ b = G0.χ b := (r.col b hb hT).trans (if_pos h1)
        exact (if_pos (by omega)).trans h2
      · exact r.own b (ren_ge hb).1
      · constructor
        · show (match lookL (σ.m.map fun x => (x.2, x.1)) o with | some o => G'.bl o | none => if σ.pin = true ∧ 1000000 ≤ o then G'.bl o else 0) = _
          cases hl : lookL (σ.m.map fun x => (x.2, x.1)) o with
          | some o' => rw [key o ho o' hl]; exact (r.pin o ho).1
          | none => exact (if_pos ⟨hp0, ho⟩).trans (r.pin o ho).1
        · show (match lookL (σ.m.map fun x => (x.2, x.1)) o with | some o => G'.hv o | none => if σ.pin = true ∧ 1000000 ≤ o then G'.hv o else .slice none 0 0) = _
          cases hl : lookL (σ.m.map fun x => (x.2, x.1)) o with
          | some o' => rw [key o ho o' hl]; exact (r.pin o ho).2
          | none => exact (if_pos ⟨hp0, ho⟩).trans (r.pin o ho).2
      · refine ⟨by rw [← hcl]; exact hus.1, fun i c' u hc' hu => ?_⟩
        have h1 := allP_mem ht _ (resTms_get hc')
        have hi : i < cs.length := by rw [hcl]; exact (List.getElem?_eq_some_iff.1 hc').1
        have h2 : (cmpSt cs s.hp).tm i = .c cs[i] := by
          show (match cs[i]? with | some c => Slot.c c | none => .dead) = _
          rw [List.getElem?_eq_getElem hi]
        dsimp only at h1
        rw [h2] at h1
        exact CSub_rd hσ hobj' (hus.2 i _ u (List.getElem?_eq_getElem hi) hu) h1
      · exact OSub_rd (q := (o, h)) hσ hobj' (allP_mem hh _ (lookL_mem ho))
  refine wp_mono hwp fun e a w' hq => ?_
  cases e with
  | normal => obtain ⟨s, h1, h2⟩ := hq; exact fin s a w' h1 h2
  | ret => obtain ⟨s, h1, h2⟩ := hq; exact fin s a w' h1 h2
  | exit i => obtain ⟨s, h1, h2⟩ := hq; exact h1.elim
  | goto l => exact hq.elim
  | panic ch => exact hq.elim
  | outgrown => exact hq.elim
end
end Go.Lad
