import Derived.Test.YtkpefpjpadahiaaGreatDoorAb10d
import Derived.Orders
namespace Go.Lad
set_option linter.unusedVariables false
set_option linter.unusedSimpArgs false
open Go.RowKit
def jv (ops:List Oper) (s:St) (g:Nat):Slot :=
 match (ops[g]?).bind (·.dst) with
 | some d=>s.tm d
 | none=>.dead
def ny (ops:List Oper) (s:St) (o:Oper):Option Bool :=
 match o.guard with
 | none=>some true
 | some (g,b)=>match jv ops s g with
  | .c (.v (.p (.bool c)))=>some (c == b)
  | .t _=>some false
  | _=>none
def oO:Eff:=⟨True,.t [],[]⟩
def inL (l:List Nat) (d:Option Nat):Bool:=match d with | some d=>l.contains d | none=>false
def orE (x y:Option Eff):Option Eff:=match x with | some e=>some e | none=>y
def cW:Op->Bool
 | .buildSlice _ _ _=>true
 | .binOp .add _ _ _ _=>true
 | _=>false
def ko (op:Op):Bool:=cW op || dO op
def opX (P:Program) (Γ:Opt) (s:St) (o:Oper):Option Eff:=if (inL Γ.fz o.dst && ko o.op)=true then (if cW o.op=true then opZ P (inL Γ.mv o.dst) o.op ((Op.bL o.op).map s.ev) else yS P o.op o.dst (aY s.hp o.dst) ((Op.bL o.op).map s.arg)) else orE (opE P o.op o.dst (aY s.hp o.dst) ((Op.bL o.op).map s.arg)) (opY P o.op o.dst (aY s.hp o.dst) ((Op.bL o.op).map s.arg))
def mc:Op->Bool
 | .load _ _ | .indexAddr _ _ _ | .slice _ _ _ _ none=>true
 | .call { callee := .builtin .len,.. }=>true
 | _=>false
def vl:Op->Bool
 | .slice _ _ _ _ none=>true
 | .call { callee := .builtin .len,.. }=>true
 | _=>false
def lI:Op->Option Nat
 | .load _ (.tmp k)=>some k
 | .store _ (.tmp k) _=>some k
 | _=>none
def FV (l:List Nat) (k t:Nat):Bool:=l.any fun e=>Nat.beq (e / 1000000) (k+1) && Nat.beq (e % 1000000) t
def btP (s:St) (t i:Nat):Prop:=(t<500000/\∃ cs,s.hp i=some (.box t cs))\/i+500000=t
def Nj (Γ:Opt) (s:St) (o:Oper):Prop := ∀ k,lI o.op=some k->∀ t,FV Γ.bx k t=true->∀ i∈(s.ev (.tmp k)).ids,btP s t i
def pf (Γ:Opt) (s:St) (o:Oper):Prop:=(inL Γ.mv o.dst=true->∀ x∈Op.bL o.op,(s.ev x).ids=[])/\(inL Γ.mv o.dst=false->(inL Γ.bx o.dst && mc o.op)=true->∀ x∈Op.bL o.op,∀ i∈(s.ev x).ids,if vl o.op=true then ∃ t z l,s.hp i=some (.arr t z l) else ∃ t cs,s.hp i=some (.box t cs))/\Nj Γ s o
theorem fw {x:Option Eff}:orE x none=x:=by cases x <;> rfl
theorem fk {y:Option Eff}:orE none y=y:=rfl
theorem jc {P:Program} {Γ:Opt} {s:St} {o:Oper} (h:(inL Γ.fz o.dst && ko o.op)=false):opX P Γ s o=orE (opE P o.op o.dst (aY s.hp o.dst) ((Op.bL o.op).map s.arg)) (opY P o.op o.dst (aY s.hp o.dst) ((Op.bL o.op).map s.arg)):=by
 unfold opX; rw[h]; rfl
theorem vm {P:Program} {Γ:Opt} {s:St} {o:Oper} (h:(inL Γ.fz o.dst && cW o.op)=true):opX P Γ s o=opZ P (inL Γ.mv o.dst) o.op ((Op.bL o.op).map s.ev):=by
 rw[Bool.and_eq_true] at h;unfold opX; rw[if_pos (by rw[h.1]; unfold ko; rw[h.2]; rfl),if_pos h.2]
theorem vn {P:Program} {Γ:Opt} {s:St} {o:Oper} (h:(inL Γ.fz o.dst && dO o.op)=true):opX P Γ s o=yS P o.op o.dst (aY s.hp o.dst) ((Op.bL o.op).map s.arg):=by
 rw[Bool.and_eq_true] at h;have hb:cW o.op=false:=by
  have h2:=h.2;unfold dO at h2;split at h2 <;> rename_i hop <;> first | (cases h2; done) | (rw[hop]; rfl)
 unfold opX; rw[if_pos (by rw[h.1]; unfold ko; rw[h.2,Bool.or_true]; rfl),if_neg (by rw[hb]; simp)]
theorem pg {Γ:Opt} {o:Oper} (h1:(inL Γ.fz o.dst && cW o.op)=false) (h2:(inL Γ.fz o.dst && dO o.op)=false):(inL Γ.fz o.dst && ko o.op)=false:=by
 unfold ko;cases hf:inL Γ.fz o.dst <;> cases hb:cW o.op <;> cases ht:dO o.op <;> simp_all
theorem iE {x y:Option Eff} {e:Eff} (h:orE x y=some e):x=some e\/y=some e:=by
 unfold orE at h;split at h
 ·exact .inl h
 ·exact .inr h
def Stp (P:Program) (Γ:Opt) (s:St) (o:Oper) (e:Eff):Prop :=
 match o.op with
 | .call { callee := .value _,.. }=>jk P Γ s o e
 | _=>opX P Γ s o=some e/\pf Γ s o
def fR (P:Program) (Γ:Opt) (ops:List Oper) (s:St) (o:Oper) (e:Eff):Prop :=
 (ny ops s o=some true/\Stp P Γ s o e)\/(ny ops s o=some false/\e=oO)
def Rev (Γ:Opt) (o:Oper) (s s':St):Prop:=s'=s\/(inL Γ.vs o.dst=true/\∃ tms hps σ,Sub σ s tms hps/\s'=qH tms hps)
def HT (P:Program) (Γ:Opt) (ops:List Oper):List Oper->St->(St->Prop)->Prop
 | [],s,K=>K s
 | o::rest,s,K=>∃ s' e,Rev Γ o s s'/\fR P Γ ops s' o e/\e.cond/\HT P Γ ops rest (s'.app o.dst e) K
def rq (Γ:Opt) (o:Oper) (s:St) (K:St->Prop):Prop:=if inL Γ.vs o.dst then (K s\/∃ tms hps σ,Sub σ s tms hps/\K (qH tms hps)) else K s
def oP (P:Program) (Γ:Opt) (s:St) (o:Oper) (K:Eff->Prop):Prop :=
 match o.op with
 | .call { callee := .value _,.. }=>∃ e,jk P Γ s o e/\e.cond/\K e
 | _=>match opX P Γ s o with | some e=>e.cond/\pf Γ s o/\K e | none=>False
def od (P:Program) (Γ:Opt) (ops:List Oper):List Oper->St->(St->Prop)->Prop
 | [],s,K=>K s
 | o::rest,s,K=>rq Γ o s fun s =>
  match o.guard with
  | none=>oP P Γ s o fun e=>od P Γ ops rest (s.app o.dst e) K
  | some (g,b)=>match jv ops s g with
   | .c (.v (.p (.bool c)))=>(c=b->oP P Γ s o fun e=>od P Γ ops rest (s.app o.dst e) K)/\(c = !b->od P Γ ops rest (s.app o.dst oO) K)
   | .t _=>od P Γ ops rest (s.app o.dst oO) K
   | _=>False
theorem HU {P:Program} {Γ:Opt} {s:St} {o:Oper} {K:Eff->Prop} (h:oP P Γ s o K):∃ e,Stp P Γ s o e/\e.cond/\K e:=by
 unfold oP at h;unfold Stp;split at h
 ·exact h
 ·split at h
  ·rename_i e he;exact⟨e,⟨he,h.2.1⟩,h.1,h.2.2⟩
  ·exact h.elim
theorem mE {P:Program} {Γ:Opt} {ops:List Oper} {K:St->Prop}:∀ (l:List Oper) (s:St),od P Γ ops l s K->HT P Γ ops l s K
 | [],s,h=>h
 | o::rest,s,h=>by
  have key:∀ s:St,(match o.guard with
   | none=>oP P Γ s o fun e=>od P Γ ops rest (s.app o.dst e) K
   | some (g,b)=>match jv ops s g with
    | .c (.v (.p (.bool c)))=>(c=b->oP P Γ s o fun e=>od P Γ ops rest (s.app o.dst e) K)/\(c = !b->od P Γ ops rest (s.app o.dst oO) K)
    | .t _=>od P Γ ops rest (s.app o.dst oO) K
    | _=>False)->∃ e,fR P Γ ops s o e/\e.cond/\HT P Γ ops rest (s.app o.dst e) K:=by
   intro s h;split at h
   ·rename_i hg;obtain⟨e,h1,h2,h3⟩:=HU h;exact⟨e,.inl ⟨by simp [ny,hg],h1⟩,h2,mE rest _ h3⟩
   ·rename_i g b hg;split at h
    ·rename_i c hs;obtain⟨h1,h2⟩:=h;by_cases hcb:c=b
     ·obtain⟨e,h3,h4,h5⟩:=HU (h1 hcb);exact⟨e,.inl ⟨by simp [ny,hg,hs,hcb],h3⟩,h4,mE rest _ h5⟩
     ·refine⟨oO,.inr ⟨?_,rfl⟩,trivial,mE rest _ (h2 (by cases c <;> cases b <;> simp_all))⟩;have:(c == b)=false:=by simpa using hcb
      simp [ny,hg,hs,this]
    ·rename_i hs;exact⟨oO,.inr ⟨by simp [ny,hg,hs],rfl⟩,trivial,mE rest _ h⟩
    ·exact h.elim
  unfold od rq at h;split at h
  ·rename_i hv;rcases h with h | ⟨tms,hps,σ,hs,h⟩
   ·obtain⟨e,h1⟩:=key s h;exact⟨s,e,.inl rfl,h1⟩
   ·obtain⟨e,h1⟩:=key _ h;exact⟨_,e,.inr ⟨hv,tms,hps,σ,hs,rfl⟩,h1⟩
  ·obtain⟨e,h1⟩:=key s h;exact⟨s,e,.inl rfl,h1⟩
section
variable {P:Program} {Γ:Opt} {w0:World} {χ0:Col} {T0:Ctx} {s:St} {a:Act} {w:World} {G:Gh} {o:Oper} {Q:Exit->Act->World->Prop} {ops:List Oper} {n:Nat}
theorem AI {x:Bool} (r:cI w0 χ0 T0 s a w G) (hdn:∀ o∈ops,∀ k,o.dst=some k->k<a.tmps.size) (h:ny ops s o=some x):Region.wanted o (yielded ops.toArray a.tmps)=x:=by
 unfold ny at h;unfold Region.wanted;split at h
 ·rename_i hg;simp only[Option.some.injEq] at h;rw[hg]; exact h
 ·rename_i g b hg;rw[hg];dsimp only;have hsl:∀ sl,jv ops s g=sl->sl ≠ .dead->∃ d,(ops.toArray[g]?).bind (·.dst)=some d/\s.tm d=sl/\d<a.tmps.size:=by
   intro sl h1 h2;unfold jv at h1;split at h1
   ·rename_i d hd;refine⟨d,by simpa using hd,h1,?_⟩;rw[Option.bind_eq_some_iff] at hd;obtain⟨o',ho',hd'⟩:=hd;exact hdn o' (List.mem_of_getElem? ho') d hd'
   ·exact absurd h1.symm h2
  split at h
  ·rename_i c hs;obtain⟨d,h1,h2,h3⟩:=hsl _ hs (by simp);simp only[Option.some.injEq] at h;have hv:=r.tms d;rw[h2] at hv;have hb:=kI hv;have:yielded ops.toArray a.tmps g=some c:=by
    unfold yielded;rw[h1];simp only[Option.bind_some,Array.getElem?_eq_getElem h3];have:a.tmps.getD d undef=a.tmps[d]:=by simp [Array.getElem?_eq_getElem h3]
    rw[this] at hb;rw[hb]
   rw[this];rw[← h]; cases c <;> cases b <;> rfl
  ·rename_i l hs;obtain⟨d,h1,h2,h3⟩:=hsl _ hs (by simp);simp only[Option.some.injEq] at h;have hv:=r.tms d;rw[h2] at hv;obtain⟨vs,hb,_⟩:=hv;have:yielded ops.toArray a.tmps g=none:=by
    unfold yielded;rw[h1];simp only[Option.bind_some,Array.getElem?_eq_getElem h3];have:a.tmps.getD d undef=a.tmps[d]:=by simp [Array.getElem?_eq_getElem h3]
    rw[this] at hb;rw[hb]
   rw[this,← h]; rfl
  ·cases h
theorem KH (r:cI w0 χ0 T0 s a w G) (hd:∀ k,o.dst=some k->k<a.tmps.size):bG w0 χ0 T0 a.tmps.size (s.app o.dst oO) (a.put o.dst undef) w:=by
 refine⟨Act.ji _ _ _,G,?_⟩;have:=r.val (d:=o.dst) (x := .t []) (v:=undef) hd ⟨[],rfl,rfl,by simp⟩;have e:s.app o.dst oO=s.put o.dst (.t []):=by unfold St.app St.put oO; cases o.dst <;> rfl
 rw[e]; exact this
theorem Nk {e:Eff} (r:cI w0 χ0 T0 s a w G) (hd:∀ k,o.dst=some k->k<a.tmps.size) (h:Stp P Γ s o e) (hc:e.cond):o.wp P a w (bG w0 χ0 T0 a.tmps.size (s.app o.dst e)) Q:=by
 unfold Stp at h;split at h
 ·exact Kq r hd h
 ·have h:=h.1;cases hz:inL Γ.fz o.dst && cW o.op with
  | true=>rw[vm hz] at h; exact Nb r hd h
  | false =>
  cases ht:inL Γ.fz o.dst && dO o.op with
  | true=>rw[vn ht] at h; exact KD r hd h hc
  | false =>
   rw[jc (pg hz ht)] at h;rcases iE h with h | h
   ·exact M9 r hd h hc
   ·exact Ni r hd h hc
theorem vo {e:Eff} {K:Act->World->Prop} (hdn:∀ o∈ops,∀ k,o.dst=some k->k<n) (ho:o∈ops) (ha:bG w0 χ0 T0 n s a w) (h:fR P Γ ops s o e) (hc:e.cond)
  (hK:∀ a' w',bG w0 χ0 T0 n (s.app o.dst e) a' w'->K a' w') :
  if Region.wanted o (yielded ops.toArray a.tmps) then o.wp P a w K Q\/(o.asks P a w/\LetsOut Q) else K (a.put o.dst undef) w:=by
 obtain⟨hn,G,r⟩:=ha;subst hn;have hd:=hdn o ho;rcases h with⟨hw,h⟩ | ⟨hw,rfl⟩
 ·rw[AI r hdn hw,if_pos rfl];exact .inl (Oper.wp_mono (fun a' w' h'=>hK a' w' h') (Nk r hd h hc))
 ·rw[AI r hdn hw];simp only[Bool.false_eq_true,if_false];exact hK _ _ (KH r hd)
theorem Nl {s':St} (hχ:∀ b,χ0 b<=1) (h:Rev Γ o s s') (ha:bG w0 χ0 T0 n s a w):bG w0 χ0 T0 n s' a w:=by
 rcases h with rfl | ⟨_,tms,hps,σ,hs,rfl⟩
 ·exact ha
 ·exact yO hχ hs ha
theorem HV (hχ:∀ b,χ0 b<=1) (hdn:∀ o∈ops,∀ k,o.dst=some k->k<n) {K:St->Prop} (hQ:∀ s a w,K s->bG w0 χ0 T0 n s a w->Q .normal a w) :
  ∀ (l:List Oper) (s:St) (a:Act) (w:World),(∀ o∈l,o∈ops)->bG w0 χ0 T0 n s a w->HT P Γ ops l s K->wpList P ops.toArray Q l a w
 | [],s,a,w,_,ha,h=>hQ s a w h ha
 | o::rest,s,a,w,hl,ha,h=>by
  obtain⟨s',e,h0,h1,h2,h3⟩:=h;unfold wpList;exact vo hdn (hl o List.mem_cons_self) (Nl hχ h0 ha) h1 h2 fun a' w' ha'=>HV hχ hdn hQ rest _ a' w' (fun o ho=>hl o (List.mem_cons_of_mem _ ho)) ha' h3
end
end Go.Lad
