import Derived.Test.YtcmibmohdnbhgaaGreatDoorAb10d
import Derived.Orders
namespace Go.Lad
set_option linter.unusedVariables false
set_option linter.unusedSimpArgs false
open Go.RowKit
def guardSlot (ops:List Oper) (s:St) (g:Nat):Slot :=
 match (ops[g]?).bind (·.dst) with
 | some d=>s.tm d
 | none=>.dead
def wantA (ops:List Oper) (s:St) (o:Oper):Option Bool :=
 match o.guard with
 | none=>some true
 | some (g,b)=>match guardSlot ops s g with
  | .c (.v (.p (.bool c)))=>some (c == b)
  | .t _=>some false
  | _=>none
def skipE:Eff:=⟨True,.t [],[]⟩
def inL (l:List Nat) (d:Option Nat):Bool:=match d with | some d=>l.contains d | none=>false
def orE (x y:Option Eff):Option Eff:=match x with | some e=>some e | none=>y
def isBuild:Op → Bool
 | .buildSlice _ _ _=>true
 | .binOp .add _ _ _ _=>true
 | _=>false
def isFz (op:Op):Bool:=isBuild op || isTake op
def opX (P:Program) (Γ:Opt) (s:St) (o:Oper):Option Eff:=if (inL Γ.fz o.dst && isFz o.op) = true then (if isBuild o.op = true then opZ P (inL Γ.mv o.dst) o.op ((Op.opds o.op).map s.ev) else opTk P o.op o.dst (isFree s.hp o.dst) ((Op.opds o.op).map s.arg)) else orE (opE P o.op o.dst (isFree s.hp o.dst) ((Op.opds o.op).map s.arg)) (opY P o.op o.dst (isFree s.hp o.dst) ((Op.opds o.op).map s.arg))
def mvOp:Op → Bool
 | .load _ _ | .indexAddr _ _ _ | .slice _ _ _ _ none=>true
 | .call { callee := .builtin .len,.. }=>true
 | _=>false
def isSl:Op → Bool
 | .slice _ _ _ _ none=>true
 | .call { callee := .builtin .len,.. }=>true
 | _=>false
def adrOf:Op → Option Nat
 | .load _ (.tmp k)=>some k
 | .store _ (.tmp k) _=>some k
 | _=>none
def isBt (l:List Nat) (k t:Nat):Bool:=l.any fun e=>Nat.beq (e / 1000000) (k + 1) && Nat.beq (e % 1000000) t
def btP (s:St) (t i:Nat):Prop:=(t < 500000 ∧ ∃ cs,s.hp i = some (.box t cs)) ∨ i + 500000 = t
def btOK (Γ:Opt) (s:St) (o:Oper):Prop := ∀ k,adrOf o.op = some k → ∀ t,isBt Γ.bx k t = true → ∀ i ∈ (s.ev (.tmp k)).ids,btP s t i
def noObj (Γ:Opt) (s:St) (o:Oper):Prop:=(inL Γ.mv o.dst = true → ∀ x ∈ Op.opds o.op,(s.ev x).ids = []) ∧ (inL Γ.mv o.dst = false → (inL Γ.bx o.dst && mvOp o.op) = true → ∀ x ∈ Op.opds o.op,∀ i ∈ (s.ev x).ids,if isSl o.op = true then ∃ t z l,s.hp i = some (.arr t z l) else ∃ t cs,s.hp i = some (.box t cs)) ∧ btOK Γ s o
theorem orE_r {x:Option Eff}:orE x none = x:=by cases x <;> rfl
theorem orE_l {y:Option Eff}:orE none y = y:=rfl
theorem opX_nf {P:Program} {Γ:Opt} {s:St} {o:Oper} (h:(inL Γ.fz o.dst && isFz o.op) = false):opX P Γ s o = orE (opE P o.op o.dst (isFree s.hp o.dst) ((Op.opds o.op).map s.arg)) (opY P o.op o.dst (isFree s.hp o.dst) ((Op.opds o.op).map s.arg)):=by
 unfold opX; rw[h]; rfl
theorem opX_z {P:Program} {Γ:Opt} {s:St} {o:Oper} (h:(inL Γ.fz o.dst && isBuild o.op) = true):opX P Γ s o = opZ P (inL Γ.mv o.dst) o.op ((Op.opds o.op).map s.ev):=by
 rw[Bool.and_eq_true] at h
 unfold opX; rw[if_pos (by rw[h.1]; unfold isFz; rw[h.2]; rfl),if_pos h.2]
theorem opX_t {P:Program} {Γ:Opt} {s:St} {o:Oper} (h:(inL Γ.fz o.dst && isTake o.op) = true):opX P Γ s o = opTk P o.op o.dst (isFree s.hp o.dst) ((Op.opds o.op).map s.arg):=by
 rw[Bool.and_eq_true] at h
 have hb:isBuild o.op = false:=by
  have h2:=h.2
  unfold isTake at h2
  split at h2 <;> rename_i hop <;> first | (cases h2; done) | (rw[hop]; rfl)
 unfold opX; rw[if_pos (by rw[h.1]; unfold isFz; rw[h.2,Bool.or_true]; rfl),if_neg (by rw[hb]; simp)]
theorem fz_cases {Γ:Opt} {o:Oper} (h1:(inL Γ.fz o.dst && isBuild o.op) = false) (h2:(inL Γ.fz o.dst && isTake o.op) = false):(inL Γ.fz o.dst && isFz o.op) = false:=by
 unfold isFz
 cases hf:inL Γ.fz o.dst <;> cases hb:isBuild o.op <;> cases ht:isTake o.op <;> simp_all
theorem orE_cases {x y:Option Eff} {e:Eff} (h:orE x y = some e):x = some e ∨ y = some e:=by
 unfold orE at h
 split at h
 ·exact .inl h
 ·exact .inr h
def Stp (P:Program) (Γ:Opt) (s:St) (o:Oper) (e:Eff):Prop :=
 match o.op with
 | .call { callee := .value _,.. }=>CallStep P Γ s o e
 | _=>opX P Γ s o = some e ∧ noObj Γ s o
def EffR (P:Program) (Γ:Opt) (ops:List Oper) (s:St) (o:Oper) (e:Eff):Prop :=
 (wantA ops s o = some true ∧ Stp P Γ s o e) ∨ (wantA ops s o = some false ∧ e = skipE)
def Rev (Γ:Opt) (o:Oper) (s s':St):Prop:=s' = s ∨ (inL Γ.vs o.dst = true ∧ ∃ tms hps σ,Sub σ s tms hps ∧ s' = mkSt tms hps)
def lexA (P:Program) (Γ:Opt) (ops:List Oper):List Oper → St → (St → Prop) → Prop
 | [],s,K=>K s
 | o :: rest,s,K=>∃ s' e,Rev Γ o s s' ∧ EffR P Γ ops s' o e ∧ e.cond ∧ lexA P Γ ops rest (s'.app o.dst e) K
def viewA (Γ:Opt) (o:Oper) (s:St) (K:St → Prop):Prop:=if inL Γ.vs o.dst then (K s ∨ ∃ tms hps σ,Sub σ s tms hps ∧ K (mkSt tms hps)) else K s
def stepA (P:Program) (Γ:Opt) (s:St) (o:Oper) (K:Eff → Prop):Prop :=
 match o.op with
 | .call { callee := .value _,.. }=>∃ e,CallStep P Γ s o e ∧ e.cond ∧ K e
 | _=>match opX P Γ s o with | some e=>e.cond ∧ noObj Γ s o ∧ K e | none=>False
def regA (P:Program) (Γ:Opt) (ops:List Oper):List Oper → St → (St → Prop) → Prop
 | [],s,K=>K s
 | o :: rest,s,K=>viewA Γ o s fun s =>
  match o.guard with
  | none=>stepA P Γ s o fun e=>regA P Γ ops rest (s.app o.dst e) K
  | some (g,b)=>match guardSlot ops s g with
   | .c (.v (.p (.bool c)))=>(c = b → stepA P Γ s o fun e=>regA P Γ ops rest (s.app o.dst e) K) ∧ (c = !b → regA P Γ ops rest (s.app o.dst skipE) K)
   | .t _=>regA P Γ ops rest (s.app o.dst skipE) K
   | _=>False
theorem stp_of {P:Program} {Γ:Opt} {s:St} {o:Oper} {K:Eff → Prop} (h:stepA P Γ s o K):∃ e,Stp P Γ s o e ∧ e.cond ∧ K e:=by
 unfold stepA at h
 unfold Stp
 split at h
 ·exact h
 ·split at h
  ·rename_i e he
   exact⟨e,⟨he,h.2.1⟩,h.1,h.2.2⟩
  ·exact h.elim
theorem lex_of_reg {P:Program} {Γ:Opt} {ops:List Oper} {K:St → Prop}:∀ (l:List Oper) (s:St),regA P Γ ops l s K → lexA P Γ ops l s K
 | [],s,h=>h
 | o :: rest,s,h=>by
  have key:∀ s:St,(match o.guard with
   | none=>stepA P Γ s o fun e=>regA P Γ ops rest (s.app o.dst e) K
   | some (g,b)=>match guardSlot ops s g with
    | .c (.v (.p (.bool c)))=>(c = b → stepA P Γ s o fun e=>regA P Γ ops rest (s.app o.dst e) K) ∧ (c = !b → regA P Γ ops rest (s.app o.dst skipE) K)
    | .t _=>regA P Γ ops rest (s.app o.dst skipE) K
    | _=>False) → ∃ e,EffR P Γ ops s o e ∧ e.cond ∧ lexA P Γ ops rest (s.app o.dst e) K:=by
   intro s h
   split at h
   ·rename_i hg
    obtain⟨e,h1,h2,h3⟩:=stp_of h
    exact⟨e,.inl ⟨by simp [wantA,hg],h1⟩,h2,lex_of_reg rest _ h3⟩
   ·rename_i g b hg
    split at h
    ·rename_i c hs
     obtain⟨h1,h2⟩:=h
     by_cases hcb:c = b
     ·obtain⟨e,h3,h4,h5⟩:=stp_of (h1 hcb)
      exact⟨e,.inl ⟨by simp [wantA,hg,hs,hcb],h3⟩,h4,lex_of_reg rest _ h5⟩
     ·refine⟨skipE,.inr ⟨?_,rfl⟩,trivial,lex_of_reg rest _ (h2 (by cases c <;> cases b <;> simp_all))⟩
      have:(c == b) = false:=by simpa using hcb
      simp [wantA,hg,hs,this]
    ·rename_i hs
     exact⟨skipE,.inr ⟨by simp [wantA,hg,hs],rfl⟩,trivial,lex_of_reg rest _ h⟩
    ·exact h.elim
  unfold regA viewA at h
  split at h
  ·rename_i hv
   rcases h with h | ⟨tms,hps,σ,hs,h⟩
   ·obtain⟨e,h1⟩:=key s h
    exact⟨s,e,.inl rfl,h1⟩
   ·obtain⟨e,h1⟩:=key _ h
    exact⟨_,e,.inr ⟨hv,tms,hps,σ,hs,rfl⟩,h1⟩
  ·obtain⟨e,h1⟩:=key s h
   exact⟨s,e,.inl rfl,h1⟩
section
variable {P:Program} {Γ:Opt} {w0:World} {χ0:Col} {T0:Ctx} {s:St} {a:Act} {w:World} {G:Gh} {o:Oper} {Q:Exit → Act → World → Prop} {ops:List Oper} {n:Nat}
theorem wantA_ok {x:Bool} (r:RepG w0 χ0 T0 s a w G) (hdn:∀ o ∈ ops,∀ k,o.dst = some k → k < a.tmps.size) (h:wantA ops s o = some x):Region.wanted o (yielded ops.toArray a.tmps) = x:=by
 unfold wantA at h
 unfold Region.wanted
 split at h
 ·rename_i hg
  simp only[Option.some.injEq] at h
  rw[hg]; exact h
 ·rename_i g b hg
  rw[hg]
  dsimp only
  have hsl:∀ sl,guardSlot ops s g = sl → sl ≠ .dead → ∃ d,(ops.toArray[g]?).bind (·.dst) = some d ∧ s.tm d = sl ∧ d < a.tmps.size:=by
   intro sl h1 h2
   unfold guardSlot at h1
   split at h1
   ·rename_i d hd
    refine⟨d,by simpa using hd,h1,?_⟩
    rw[Option.bind_eq_some_iff] at hd
    obtain⟨o',ho',hd'⟩:=hd
    exact hdn o' (List.mem_of_getElem? ho') d hd'
   ·exact absurd h1.symm h2
  split at h
  ·rename_i c hs
   obtain⟨d,h1,h2,h3⟩:=hsl _ hs (by simp)
   simp only[Option.some.injEq] at h
   have hv:=r.tms d
   rw[h2] at hv
   have hb:=rd_bool hv
   have:yielded ops.toArray a.tmps g = some c:=by
    unfold yielded
    rw[h1]
    simp only[Option.bind_some,Array.getElem?_eq_getElem h3]
    have:a.tmps.getD d undef = a.tmps[d]:=by simp [Array.getElem?_eq_getElem h3]
    rw[this] at hb
    rw[hb]
   rw[this]
   rw[← h]; cases c <;> cases b <;> rfl
  ·rename_i l hs
   obtain⟨d,h1,h2,h3⟩:=hsl _ hs (by simp)
   simp only[Option.some.injEq] at h
   have hv:=r.tms d
   rw[h2] at hv
   obtain⟨vs,hb,_⟩:=hv
   have:yielded ops.toArray a.tmps g = none:=by
    unfold yielded
    rw[h1]
    simp only[Option.bind_some,Array.getElem?_eq_getElem h3]
    have:a.tmps.getD d undef = a.tmps[d]:=by simp [Array.getElem?_eq_getElem h3]
    rw[this] at hb
    rw[hb]
   rw[this,← h]; rfl
  ·cases h
theorem skip_ok (r:RepG w0 χ0 T0 s a w G) (hd:∀ k,o.dst = some k → k < a.tmps.size):After w0 χ0 T0 a.tmps.size (s.app o.dst skipE) (a.put o.dst undef) w:=by
 refine⟨Act.put_size _ _ _,G,?_⟩
 have:=r.val (d:=o.dst) (x := .t []) (v:=undef) hd ⟨[],rfl,rfl,by simp⟩
 have e:s.app o.dst skipE = s.put o.dst (.t []):=by unfold St.app St.put skipE; cases o.dst <;> rfl
 rw[e]; exact this
theorem stp_ok {e:Eff} (r:RepG w0 χ0 T0 s a w G) (hd:∀ k,o.dst = some k → k < a.tmps.size) (h:Stp P Γ s o e) (hc:e.cond):o.wp P a w (After w0 χ0 T0 a.tmps.size (s.app o.dst e)) Q:=by
 unfold Stp at h
 split at h
 ·exact call_ok r hd h
 ·have h:=h.1
  cases hz:inL Γ.fz o.dst && isBuild o.op with
  | true=>rw[opX_z hz] at h; exact opZ_ok r hd h
  | false =>
  cases ht:inL Γ.fz o.dst && isTake o.op with
  | true=>rw[opX_t ht] at h; exact opTk_ok r hd h hc
  | false =>
   rw[opX_nf (fz_cases hz ht)] at h
   rcases orE_cases h with h | h
   ·exact opE_ok r hd h hc
   ·exact opY_ok r hd h hc
theorem eff_step {e:Eff} {K:Act → World → Prop} (hdn:∀ o ∈ ops,∀ k,o.dst = some k → k < n) (ho:o ∈ ops) (ha:After w0 χ0 T0 n s a w) (h:EffR P Γ ops s o e) (hc:e.cond)
  (hK:∀ a' w',After w0 χ0 T0 n (s.app o.dst e) a' w' → K a' w') :
  if Region.wanted o (yielded ops.toArray a.tmps) then o.wp P a w K Q ∨ (o.asks P a w ∧ LetsOut Q) else K (a.put o.dst undef) w:=by
 obtain⟨hn,G,r⟩:=ha
 subst hn
 have hd:=hdn o ho
 rcases h with⟨hw,h⟩ | ⟨hw,rfl⟩
 ·rw[wantA_ok r hdn hw,if_pos rfl]
  exact .inl (Oper.wp_mono (fun a' w' h'=>hK a' w' h') (stp_ok r hd h hc))
 ·rw[wantA_ok r hdn hw]
  simp only[Bool.false_eq_true,if_false]
  exact hK _ _ (skip_ok r hd)
theorem rev_ok {s':St} (hχ:∀ b,χ0 b ≤ 1) (h:Rev Γ o s s') (ha:After w0 χ0 T0 n s a w):After w0 χ0 T0 n s' a w:=by
 rcases h with rfl | ⟨_,tms,hps,σ,hs,rfl⟩
 ·exact ha
 ·exact Sub_ok hχ hs ha
theorem reg_ok (hχ:∀ b,χ0 b ≤ 1) (hdn:∀ o ∈ ops,∀ k,o.dst = some k → k < n) {K:St → Prop} (hQ:∀ s a w,K s → After w0 χ0 T0 n s a w → Q .normal a w) :
  ∀ (l:List Oper) (s:St) (a:Act) (w:World),(∀ o ∈ l,o ∈ ops) → After w0 χ0 T0 n s a w → lexA P Γ ops l s K → wpList P ops.toArray Q l a w
 | [],s,a,w,_,ha,h=>hQ s a w h ha
 | o :: rest,s,a,w,hl,ha,h=>by
  obtain⟨s',e,h0,h1,h2,h3⟩:=h
  unfold wpList
  exact eff_step hdn (hl o List.mem_cons_self) (rev_ok hχ h0 ha) h1 h2 fun a' w' ha'=>reg_ok hχ hdn hQ rest _ a' w' (fun o ho=>hl o (List.mem_cons_of_mem _ ho)) ha' h3
end
end Go.Lad
