import Derived.Test.YtaocfjifacnokaaGreatAb10d
import Derived.Orders
namespace Go.Lad
set_option linter.unusedVariables false
set_option linter.unusedSimpArgs false
open Go.RowKit
def ie (ops:List Oper) (s:St) (g:Nat):Slot :=
 match (ops[g]?).bind (·.dst) with
 | some d=>s.tm d
 | none=>.dead
def my (ops:List Oper) (s:St) (o:Oper):Option Bool :=
 match o.guard with
 | none=>some true
 | some (g,b)=>match ie ops s g with
  | .c (.v (.p (.bool c)))=>some (c == b)
  | .t _=>some false
  | _=>none
def nP:Eff:=⟨True,.t [],[]⟩
def inL (l:List Nat) (d:Option Nat):Bool:=match d with | some d=>l.contains d | none=>false
def orE (x y:Option Eff):Option Eff:=match x with | some e=>some e | none=>y
def dx:Op → Bool
 | .buildSlice _ _ _=>true
 | .binOp .add _ _ _ _=>true
 | _=>false
def kJ (op:Op):Bool:=dx op || dU op
def opX (P:Program) (Γ:Opt) (s:St) (o:Oper):Option Eff:=if (inL Γ.fz o.dst && kJ o.op) = true then (if dx o.op = true then opZ P (inL Γ.mv o.dst) o.op ((Op.cK o.op).map s.ev) else zV P o.op o.dst (bN s.hp o.dst) ((Op.cK o.op).map s.arg)) else orE (opE P o.op o.dst (bN s.hp o.dst) ((Op.cK o.op).map s.arg)) (opY P o.op o.dst (bN s.hp o.dst) ((Op.cK o.op).map s.arg))
def kW:Op → Bool
 | .load _ _ | .indexAddr _ _ _ | .slice _ _ _ _ none=>true
 | .call { callee := .builtin .len,.. }=>true
 | _=>false
def uE:Op → Bool
 | .slice _ _ _ _ none=>true
 | .call { callee := .builtin .len,.. }=>true
 | _=>false
def nQ:Op → Option Nat
 | .load _ (.tmp k)=>some k
 | .store _ (.tmp k) _=>some k
 | _=>none
def IN (l:List Nat) (k t:Nat):Bool:=l.any fun e=>Nat.beq (e / 1000000) (k + 1) && Nat.beq (e % 1000000) t
def btP (s:St) (t i:Nat):Prop:=(t < 500000 ∧ ∃ cs,s.hp i = some (.box t cs)) ∨ i + 500000 = t
def Kr (Γ:Opt) (s:St) (o:Oper):Prop := ∀ k,nQ o.op = some k → ∀ t,IN Γ.bx k t = true → ∀ i ∈ (s.ev (.tmp k)).ids,btP s t i
def ov (Γ:Opt) (s:St) (o:Oper):Prop:=(inL Γ.mv o.dst = true → ∀ x ∈ Op.cK o.op,(s.ev x).ids = []) ∧ (inL Γ.mv o.dst = false → (inL Γ.bx o.dst && kW o.op) = true → ∀ x ∈ Op.cK o.op,∀ i ∈ (s.ev x).ids,if uE o.op = true then ∃ t z l,s.hp i = some (.arr t z l) else ∃ t cs,s.hp i = some (.box t cs)) ∧ Kr Γ s o
theorem fA {x:Option Eff}:orE x none = x:=by cases x <;> rfl
theorem fG {y:Option Eff}:orE none y = y:=rfl
theorem im {P:Program} {Γ:Opt} {s:St} {o:Oper} (h:(inL Γ.fz o.dst && kJ o.op) = false):opX P Γ s o = orE (opE P o.op o.dst (bN s.hp o.dst) ((Op.cK o.op).map s.arg)) (opY P o.op o.dst (bN s.hp o.dst) ((Op.cK o.op).map s.arg)):=by
 unfold opX; rw[h]; rfl
theorem uF {P:Program} {Γ:Opt} {s:St} {o:Oper} (h:(inL Γ.fz o.dst && dx o.op) = true):opX P Γ s o = opZ P (inL Γ.mv o.dst) o.op ((Op.cK o.op).map s.ev):=by
 rw[Bool.and_eq_true] at h
 unfold opX; rw[if_pos (by rw[h.1]; unfold kJ; rw[h.2]; rfl),if_pos h.2]
theorem w7 {P:Program} {Γ:Opt} {s:St} {o:Oper} (h:(inL Γ.fz o.dst && dU o.op) = true):opX P Γ s o = zV P o.op o.dst (bN s.hp o.dst) ((Op.cK o.op).map s.arg):=by
 rw[Bool.and_eq_true] at h
 have hb:dx o.op = false:=by
  have h2:=h.2
  unfold dU at h2
  split at h2 <;> rename_i hop <;> first | (cases h2; done) | (rw[hop]; rfl)
 unfold opX; rw[if_pos (by rw[h.1]; unfold kJ; rw[h.2,Bool.or_true]; rfl),if_neg (by rw[hb]; simp)]
theorem ow {Γ:Opt} {o:Oper} (h1:(inL Γ.fz o.dst && dx o.op) = false) (h2:(inL Γ.fz o.dst && dU o.op) = false):(inL Γ.fz o.dst && kJ o.op) = false:=by
 unfold kJ
 cases hf:inL Γ.fz o.dst <;> cases hb:dx o.op <;> cases ht:dU o.op <;> simp_all
theorem gM {x y:Option Eff} {e:Eff} (h:orE x y = some e):x = some e ∨ y = some e:=by
 unfold orE at h
 split at h
 ·exact .inl h
 ·exact .inr h
def Stp (P:Program) (Γ:Opt) (s:St) (o:Oper) (e:Eff):Prop :=
 match o.op with
 | .call { callee := .value _,.. }=>iC P Γ s o e
 | _=>opX P Γ s o = some e ∧ ov Γ s o
def gm (P:Program) (Γ:Opt) (ops:List Oper) (s:St) (o:Oper) (e:Eff):Prop :=
 (my ops s o = some true ∧ Stp P Γ s o e) ∨ (my ops s o = some false ∧ e = nP)
def Rev (Γ:Opt) (o:Oper) (s s':St):Prop:=s' = s ∨ (inL Γ.vs o.dst = true ∧ ∃ tms hps σ,Sub σ s tms hps ∧ s' = kU tms hps)
def EE (P:Program) (Γ:Opt) (ops:List Oper):List Oper → St → (St → Prop) → Prop
 | [],s,K=>K s
 | o :: rest,s,K=>∃ s' e,Rev Γ o s s' ∧ gm P Γ ops s' o e ∧ e.cond ∧ EE P Γ ops rest (s'.app o.dst e) K
def qu (Γ:Opt) (o:Oper) (s:St) (K:St → Prop):Prop:=if inL Γ.vs o.dst then (K s ∨ ∃ tms hps σ,Sub σ s tms hps ∧ K (kU tms hps)) else K s
def nR (P:Program) (Γ:Opt) (s:St) (o:Oper) (K:Eff → Prop):Prop :=
 match o.op with
 | .call { callee := .value _,.. }=>∃ e,iC P Γ s o e ∧ e.cond ∧ K e
 | _=>match opX P Γ s o with | some e=>e.cond ∧ ov Γ s o ∧ K e | none=>False
def nf (P:Program) (Γ:Opt) (ops:List Oper):List Oper → St → (St → Prop) → Prop
 | [],s,K=>K s
 | o :: rest,s,K=>qu Γ o s fun s =>
  match o.guard with
  | none=>nR P Γ s o fun e=>nf P Γ ops rest (s.app o.dst e) K
  | some (g,b)=>match ie ops s g with
   | .c (.v (.p (.bool c)))=>(c = b → nR P Γ s o fun e=>nf P Γ ops rest (s.app o.dst e) K) ∧ (c = !b → nf P Γ ops rest (s.app o.dst nP) K)
   | .t _=>nf P Γ ops rest (s.app o.dst nP) K
   | _=>False
theorem Gf {P:Program} {Γ:Opt} {s:St} {o:Oper} {K:Eff → Prop} (h:nR P Γ s o K):∃ e,Stp P Γ s o e ∧ e.cond ∧ K e:=by
 unfold nR at h
 unfold Stp
 split at h
 ·exact h
 ·split at h
  ·rename_i e he
   exact⟨e,⟨he,h.2.1⟩,h.1,h.2.2⟩
  ·exact h.elim
theorem jS {P:Program} {Γ:Opt} {ops:List Oper} {K:St → Prop}:∀ (l:List Oper) (s:St),nf P Γ ops l s K → EE P Γ ops l s K
 | [],s,h=>h
 | o :: rest,s,h=>by
  have key:∀ s:St,(match o.guard with
   | none=>nR P Γ s o fun e=>nf P Γ ops rest (s.app o.dst e) K
   | some (g,b)=>match ie ops s g with
    | .c (.v (.p (.bool c)))=>(c = b → nR P Γ s o fun e=>nf P Γ ops rest (s.app o.dst e) K) ∧ (c = !b → nf P Γ ops rest (s.app o.dst nP) K)
    | .t _=>nf P Γ ops rest (s.app o.dst nP) K
    | _=>False) → ∃ e,gm P Γ ops s o e ∧ e.cond ∧ EE P Γ ops rest (s.app o.dst e) K:=by
   intro s h
   split at h
   ·rename_i hg
    obtain⟨e,h1,h2,h3⟩:=Gf h
    exact⟨e,.inl ⟨by simp [my,hg],h1⟩,h2,jS rest _ h3⟩
   ·rename_i g b hg
    split at h
    ·rename_i c hs
     obtain⟨h1,h2⟩:=h
     by_cases hcb:c = b
     ·obtain⟨e,h3,h4,h5⟩:=Gf (h1 hcb)
      exact⟨e,.inl ⟨by simp [my,hg,hs,hcb],h3⟩,h4,jS rest _ h5⟩
     ·refine⟨nP,.inr ⟨?_,rfl⟩,trivial,jS rest _ (h2 (by cases c <;> cases b <;> simp_all))⟩
      have:(c == b) = false:=by simpa using hcb
      simp [my,hg,hs,this]
    ·rename_i hs
     exact⟨nP,.inr ⟨by simp [my,hg,hs],rfl⟩,trivial,jS rest _ h⟩
    ·exact h.elim
  unfold nf qu at h
  split at h
  ·rename_i hv
   rcases h with h | ⟨tms,hps,σ,hs,h⟩
   ·obtain⟨e,h1⟩:=key s h
    exact⟨s,e,.inl rfl,h1⟩
   ·obtain⟨e,h1⟩:=key _ h
    exact⟨_,e,.inr ⟨hv,tms,hps,σ,hs,rfl⟩,h1⟩
  ·obtain⟨e,h1⟩:=key s h
   exact⟨s,e,.inl rfl,h1⟩
section
variable {P:Program} {Γ:Opt} {w0:World} {χ0:Col} {T0:Ctx} {s:St} {a:Act} {w:World} {G:Gh} {o:Oper} {Q:Exit → Act → World → Prop} {ops:List Oper} {n:Nat}
theorem zX {x:Bool} (r:cV w0 χ0 T0 s a w G) (hdn:∀ o ∈ ops,∀ k,o.dst = some k → k < a.tmps.size) (h:my ops s o = some x):Region.wanted o (yielded ops.toArray a.tmps) = x:=by
 unfold my at h
 unfold Region.wanted
 split at h
 ·rename_i hg
  simp only[Option.some.injEq] at h
  rw[hg]; exact h
 ·rename_i g b hg
  rw[hg]
  dsimp only
  have hsl:∀ sl,ie ops s g = sl → sl ≠ .dead → ∃ d,(ops.toArray[g]?).bind (·.dst) = some d ∧ s.tm d = sl ∧ d < a.tmps.size:=by
   intro sl h1 h2
   unfold ie at h1
   split at h1
   ·rename_i d hd
    refine⟨d,by simpa using hd,h1,?_⟩
    rw[Option.bind_eq_some_iff] at hd
    obtain⟨o',ho',hd'⟩:=hd
    exact hdn o' (List.mem_of_getElem? ho') d hd'
   ·exact absurd h1.symm h2
  split at h
  ·rename_i c hs
   obtain⟨d,h1,h2,h3⟩:=hsl _ hs (by simp)
   simp only[Option.some.injEq] at h
   have hv:=r.tms d
   rw[h2] at hv
   have hb:=jl hv
   have:yielded ops.toArray a.tmps g = some c:=by
    unfold yielded
    rw[h1]
    simp only[Option.bind_some,Array.getElem?_eq_getElem h3]
    have:a.tmps.getD d undef = a.tmps[d]:=by simp [Array.getElem?_eq_getElem h3]
    rw[this] at hb
    rw[hb]
   rw[this]
   rw[← h]; cases c <;> cases b <;> rfl
  ·rename_i l hs
   obtain⟨d,h1,h2,h3⟩:=hsl _ hs (by simp)
   simp only[Option.some.injEq] at h
   have hv:=r.tms d
   rw[h2] at hv
   obtain⟨vs,hb,_⟩:=hv
   have:yielded ops.toArray a.tmps g = none:=by
    unfold yielded
    rw[h1]
    simp only[Option.bind_some,Array.getElem?_eq_getElem h3]
    have:a.tmps.getD d undef = a.tmps[d]:=by simp [Array.getElem?_eq_getElem h3]
    rw[this] at hb
    rw[hb]
   rw[this,← h]; rfl
  ·cases h
theorem IP (r:cV w0 χ0 T0 s a w G) (hd:∀ k,o.dst = some k → k < a.tmps.size):bX w0 χ0 T0 a.tmps.size (s.app o.dst nP) (a.put o.dst undef) w:=by
 refine⟨Act.ja _ _ _,G,?_⟩
 have:=r.val (d:=o.dst) (x := .t []) (v:=undef) hd ⟨[],rfl,rfl,by simp⟩
 have e:s.app o.dst nP = s.put o.dst (.t []):=by unfold St.app St.put nP; cases o.dst <;> rfl
 rw[e]; exact this
theorem Ks {e:Eff} (r:cV w0 χ0 T0 s a w G) (hd:∀ k,o.dst = some k → k < a.tmps.size) (h:Stp P Γ s o e) (hc:e.cond):o.wp P a w (bX w0 χ0 T0 a.tmps.size (s.app o.dst e)) Q:=by
 unfold Stp at h
 split at h
 ·exact Iz r hd h
 ·have h:=h.1
  cases hz:inL Γ.fz o.dst && dx o.op with
  | true=>rw[uF hz] at h; exact Ko r hd h
  | false =>
  cases ht:inL Γ.fz o.dst && dU o.op with
  | true=>rw[w7 ht] at h; exact IL r hd h hc
  | false =>
   rw[im (ow hz ht)] at h
   rcases gM h with h | h
   ·exact Km r hd h hc
   ·exact Kq r hd h hc
theorem qv {e:Eff} {K:Act → World → Prop} (hdn:∀ o ∈ ops,∀ k,o.dst = some k → k < n) (ho:o ∈ ops) (ha:bX w0 χ0 T0 n s a w) (h:gm P Γ ops s o e) (hc:e.cond)
  (hK:∀ a' w',bX w0 χ0 T0 n (s.app o.dst e) a' w' → K a' w') :
  if Region.wanted o (yielded ops.toArray a.tmps) then o.wp P a w K Q ∨ (o.asks P a w ∧ LetsOut Q) else K (a.put o.dst undef) w:=by
 obtain⟨hn,G,r⟩:=ha
 subst hn
 have hd:=hdn o ho
 rcases h with⟨hw,h⟩ | ⟨hw,rfl⟩
 ·rw[zX r hdn hw,if_pos rfl]
  exact .inl (Oper.wp_mono (fun a' w' h'=>hK a' w' h') (Ks r hd h hc))
 ·rw[zX r hdn hw]
  simp only[Bool.false_eq_true,if_false]
  exact hK _ _ (IP r hd)
theorem Gg {s':St} (hχ:∀ b,χ0 b ≤ 1) (h:Rev Γ o s s') (ha:bX w0 χ0 T0 n s a w):bX w0 χ0 T0 n s' a w:=by
 rcases h with rfl | ⟨_,tms,hps,σ,hs,rfl⟩
 ·exact ha
 ·exact uv hχ hs ha
theorem Gi (hχ:∀ b,χ0 b ≤ 1) (hdn:∀ o ∈ ops,∀ k,o.dst = some k → k < n) {K:St → Prop} (hQ:∀ s a w,K s → bX w0 χ0 T0 n s a w → Q .normal a w) :
  ∀ (l:List Oper) (s:St) (a:Act) (w:World),(∀ o ∈ l,o ∈ ops) → bX w0 χ0 T0 n s a w → EE P Γ ops l s K → wpList P ops.toArray Q l a w
 | [],s,a,w,_,ha,h=>hQ s a w h ha
 | o :: rest,s,a,w,hl,ha,h=>by
  obtain⟨s',e,h0,h1,h2,h3⟩:=h
  unfold wpList
  exact qv hdn (hl o List.mem_cons_self) (Gg hχ h0 ha) h1 h2 fun a' w' ha'=>Gi hχ hdn hQ rest _ a' w' (fun o ho=>hl o (List.mem_cons_of_mem _ ho)) ha' h3
end
end Go.Lad
