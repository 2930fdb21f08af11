import Derived.Test.YtkpefpjpadahiaaGreatDoorPA
import Derived.Test.YtkpefpjpadahiaaGreatDoorAModel
import Derived.Test.YtkpefpjpadahiaaGreatDoorDPl
import Derived.Test.YtkpefpjpadahiaaGreatDoorLs
import Derived.KernelRfl
set_option linter.unusedVariables false
set_option linter.unusedSimpArgs false
set_option linter.unusedSectionVars false
namespace Go.Proofs.YtkpefpjpadahiaaGreatDoor
open Go.Lad
theorem tn (c:Int):gT c=some (leZ 97 c && leZ c 122):=by unfold gT; cases leZ 97 c <;> rfl
theorem Jy (c:Int):kA c=some (leZ 48 c && leZ c 57):=by unfold kA; cases leZ 48 c <;> rfl
theorem Jz (c:Int):jM c=some ((leZ 97 c && leZ c 122) || (leZ 48 c && leZ c 57)):=by
 unfold jM;rw[tn,Jy];simp only[aA];cases (leZ 97 c && leZ c 122) <;> rfl
theorem tp {s:Bs} {k:Nat} (h:k<s.length):bAt s (k:Int)=some (s[k].toNat:Int):=by unfold bAt; rw[jg h]; rfl
theorem L0 (s:Bs) (h:s.length<=20):∃ n,gg s=some n:=by
 unfold gg;obtain⟨b,hb,_⟩:=pZ (body:=fun x=>gg.b1 s x) (fun k x=>x=(k:Int)/\k<=s.length) (Q:=fun _=>True) s.length (x:=0) ⟨rfl,Nat.zero_le _⟩ (fun k hk x hx=>by
  obtain⟨rfl,_⟩:=hx;unfold gg.b1 gg.j1;simp only[dP];rw[decide_eq_true (show (k:Int)<(s.length:Int) by omega),cond_true,tp hk,aA,Jz];simp only[aA];cases ((leZ 97 (s[k].toNat:Int) && leZ (s[k].toNat:Int) 122) || (leZ 48 (s[k].toNat:Int) && leZ (s[k].toNat:Int) 57)) with
  | true =>
   simp only[cond_true];rw[mO (by omega),aA];exact .inl ⟨_,rfl,rfl,by omega⟩
  | false=>exact .inr ⟨_,rfl,trivial⟩) (fun x hx=>by
  obtain⟨rfl,_⟩:=hx;unfold gg.b1 gg.j1;simp only[dP];rw[decide_eq_false (by omega),cond_false];simp only[aA];exact⟨_,rfl,trivial⟩) (by omega)
 exact⟨b,hb⟩
theorem E9 (s:Bs):∃ b,iq s=some b:=by
 unfold iq iq.j1;by_cases h0:s=[]
 ·rw[decide_eq_true h0]; exact⟨false,by subst h0; rfl⟩
 ·have hl:0<s.length:=List.length_pos_iff.2 h0;rw[decide_eq_false h0,cond_false,show (0:Int)=((0:Nat):Int) from rfl,tp hl,aA,tn];simp only[aA];cases (leZ 97 (s[0].toNat:Int) && leZ (s[0].toNat:Int) 122) with
  | false=>exact⟨_,rfl⟩
  | true =>
   simp only[Bool.not_true,cond_false,aA,dP];by_cases h20:(20:Int)<(s.length:Int)
   ·rw[decide_eq_true h20]; exact⟨_,rfl⟩
   ·rw[decide_eq_false h20,cond_false];obtain⟨n,hn⟩:=L0 s (by omega);rw[hn]; exact⟨_,rfl⟩
noncomputable def mN (s:Bs):Bool:=(dI s).getD false
theorem BV {s:Bs} (h:iq s=some true):s.length<=20:=by
 refine Classical.byContradiction fun hl=>?_;unfold iq iq.j1 at h;have h0:s≠[]:=fun e=>hl (by subst e; simp);have hp:0<s.length:=List.length_pos_iff.2 h0;rw[decide_eq_false h0,cond_false,show (0:Int)=((0:Nat):Int) from rfl,tp hp,aA,tn] at h;simp only[aA] at h;cases hc:(leZ 97 (s[0].toNat:Int) && leZ (s[0].toNat:Int) 122) with
 | false=>rw[hc] at h; cases h
 | true =>
  rw[hc] at h;simp only[Bool.not_true,cond_false,aA,dP] at h;rw[decide_eq_true (show (20:Int)<(s.length:Int) by omega)] at h;cases h
theorem zJ (w v:Bs) (h:Nat.ble w.length 1000000000=true):strings_Contains w v=some (Lib.contains w v):=by
 unfold strings_Contains nN;rw[h]; rfl
theorem ng (s:Bs):dI s=some (mN s):=by
 have:∃ b,dI s=some b:=by
  unfold dI;obtain⟨b,hb⟩:=E9 s;rw[hb,aA];cases b with
  | false=>exact⟨_,rfl⟩
  | true =>
   have hl:=BV hb;rw[cond_true];unfold cat?;rw[if_pos (by simp; omega),aA,if_pos (by simp; omega),aA];rw[zJ _ _ (by kernel_rfl),aA];exact⟨_,rfl⟩
 obtain⟨b,hb⟩:=this;unfold mN;rw[hb]; rfl
theorem tS {d:Nat} (h:d<=1000000):d<jH.n:=by show d<1606938044258990275541962092341162602522202993782792835301376; omega
end Go.Proofs.YtkpefpjpadahiaaGreatDoor
namespace Go.Lad
open Go.Proofs.YtkpefpjpadahiaaGreatDoor
def ck.op:ck->Int
 | .mk o _ _ _ _ _=>o
def ck.n:ck->Int
 | .mk _ n _ _ _ _=>n
def ck.s:ck->Bs
 | .mk _ _ s _ _ _=>s
def ck.m:ck->Bs
 | .mk _ _ _ m _ _=>m
def ck.names:ck->List Bs
 | .mk _ _ _ _ ns _=>ns
def ck.args:ck->List ck
 | .mk _ _ _ _ _ l=>l
def unE (l:List ck):List fq:=List.map (α:=ck) (β:=fq) (Uun 1) l
theorem fe1 (l:List ck):@List.map (UD 1) fq (Uun 1) l=unE l:=rfl
theorem fe2 (l:List ck):@List.map ck fq (Uun 1) l=unE l:=rfl
def DK (e:ck):fq:=(e.op,e.n,e.s,e.m,e.names,e.args)
theorem PT (e:ck):(Uun 1 e:fq)=DK e:=by cases e; rfl
theorem jX (l:List ck):(unE l).length=l.length:=List.length_map _
theorem uD {l:List ck} {k:Nat} (h:k<l.length):idx (unE l) (k:Int)=some (DK l[k]):=by
 rw[jg (by rw[jX]; exact h)];exact congrArg some ((List.getElem_map (α:=ck) (β:=fq) (Uun 1)).trans (PT _))
mutual
def ck.nd:ck->Nat
 | .mk _ _ _ _ _ l=>ck.nds l+1
def ck.nds:List ck->Nat
 | []=>0
 | x::r=>x.nd+ck.nds r
end
theorem ck.se (e:ck):e.nd=ck.nds e.args+1:=by cases e; rw[ck.nd]; rfl
theorem ck.Fa (l m:List ck):ck.nds (l++m)=ck.nds l+ck.nds m:=by
 induction l with
 | nil=>rw[List.nil_append,ck.nds,Nat.zero_add]
 | cons x r ih=>rw[List.cons_append,ck.nds,ck.nds,ih,Nat.add_assoc]
theorem ck.mR {l:List ck} {k:Nat} (hk:k<l.length):ck.nds (l.take (k+1))=ck.nds (l.take k)+l[k].nd:=by
 rw[List.take_succ_eq_append_getElem hk,ck.Fa,ck.nds,ck.nds,Nat.add_zero]
def okE:Nat->ck->Prop
 | 0,_=>False
 | d+1,e=>e.args.length<=1000/\(e.op=12->e.args.length=2)/\(e.op=18->0<e.args.length)/\(e.op=11->e.args.length=3)/\(e.op=14->0<e.args.length)/\(e.op=13->e.names.length=e.args.length)/\((e.op=10->0<e.args.length)/\(3<=e.op/\e.op<=9->e.args.length=2)/\(e.op=0->0<=e.n/\e.n<=9223372036854775807)/\(e.op=13->∀ s∈e.names,s.length<=20)/\(e.op=2->e.s≠[]))/\∀ a∈e.args,okE d a
end Go.Lad
namespace Go.Proofs.YtkpefpjpadahiaaGreatDoor
open Go.Lad
theorem BW {s:Bs} (h:dI s=some true):s.length<=20:=by
 obtain⟨b,hb⟩:=E9 s;cases b with
 | true=>exact BV hb
 | false=>unfold dI at h; rw[hb] at h; cases h
theorem L1 {s:Bs} (h:dI s=some true):s≠[]:=by
 intro e;subst e;cases h
def Fb (o n:Int) (s:Bs) (ns:List Bs):Prop:=(o=0->0<=n/\n<=9223372036854775807)/\(o=13->∀ s∈ns,s.length<=20)/\(o=2->s≠[])
theorem JA (o n:Int) (s m:Bs) (ns:List Bs) (ag:List fq) (h:ns.length<=1000):Has (dK o n s m ns ag) (fun b=>b=true->Fb o n s ns):=by
 unfold dK;refine ah (fun e0=>ah (fun e1=>ae fun e2=>?_) fun _=>ae (fun h=>by cases h)) fun e0=>?_
 ·have e0:=dW e0;have e1:=j0 e1;have e2:=j0 e2;exact⟨fun _=>⟨e1,by omega⟩,fun h=>by omega,fun h=>by omega⟩
 have e0:=kD e0;refine ah (fun e1=>?_) fun e1=>ah (fun e2=>?_) fun e2=>?_
 ·have e1:=dW e1;have q:Fb o n s ns:=⟨fun h=>by omega,fun h=>by omega,fun h=>by omega⟩;exact ah (fun _=>ae fun _=>q) fun _=>ae fun _=>q
 ·have e2:=dW e2;have q:Fb o n s ns:=⟨fun h=>by omega,fun h=>by omega,fun h=>by omega⟩;exact ah (fun _=>ae fun _=>q) fun _=>ah (fun _=>ae fun _=>q) fun _=>ah (fun _=>ae fun _=>q) fun _=>ae fun _=>q
 refine aa (Q:=fun b:Bool=>(b=true->o≠13)/\(b=false->o≠2)) ?_ fun x hx=>?_
 ·refine ah (fun e=>ae ?_) fun e=>?_
  ·have e2:=dW e;exact⟨fun _=>by omega,fun e'=>by rw[e] at e'; cases e'⟩
  ·have e:=kD e;refine ah (fun e1=>ae ⟨fun _=>by have:=dW e1; omega,fun _=>e⟩) fun _=>ah (fun e1=>ae ⟨fun _=>by have:=dW e1; omega,fun _=>e⟩) fun _=>ah (fun e1=>ae ⟨fun _=>by have:=dW e1; omega,fun _=>e⟩) fun _=>ae ⟨fun e1=>by have:=dW e1; omega,fun _=>e⟩
 unfold dK.j2;refine ah (fun ex=>aa (iB (Q:=fun b=>b=mN s) (ng s) rfl) fun b hb=>ae fun e=>?_) fun ex=>ah (fun e3=>?_) fun e3=>ah (fun e4=>?_) fun e4=>ae fun _=>?_
 ·have hn:s≠[]:=L1 (by rw[ng,← hb,e]);exact⟨fun h=>absurd h e0,fun h=>absurd h (hx.1 ex),fun _=>hn⟩
 ·have e3:=dW e3;have q:Fb o n s ns:=⟨fun h=>by omega,fun h=>by omega,fun h=>by omega⟩;exact aa (iB (Q:=fun _=>True) (ng s) trivial) fun _ _=>ah (fun _=>ah (fun _=>ae fun _=>q) fun _=>aa (iB (Q:=fun _=>True) (ng m) trivial) fun _ _=>ah (fun _=>ae fun _=>q) fun _=>ae fun _=>q) fun _=>ae fun _=>q
 ·have e4:=dW e4;refine Has.mono (Q:=fun b=>b=true->∀ s∈ns,s.length<=20) ?_ fun b hb e=>⟨fun h=>by omega,fun _=>hb e,fun h=>by omega⟩;refine qa ns (fun s=>s.length<=20) (by omega) (fun i x hx=>?_) (fun hall=>?_)
  ·obtain⟨hi,_⟩:=List.getElem?_eq_some_iff.1 hx;unfold dK.b1;refine ah (fun _=>?_) fun h2=>absurd (dx h2) (by omega);refine aa (bO (by omega) (by omega)) fun a ha=>aa (Q:=fun b:Bool=>b=false->x.length<=20) (aa (iB (Q:=fun b=>b=mN a) (ng a) rfl) fun b hb=>ah (fun _=>ae (fun h=>by cases h)) fun e=>?_) fun c hc=>?_
   ·have hax:a=x:=by
     have h5:=ha.2;rw[Int.toNat_natCast,hx] at h5;exact (Option.some.inj h5).symm
    have hl:x.length<=20:=BW (by rw[← hax,ng,← hb]; simpa using e);refine ah (fun h3=>?_) fun _=>ae fun _=>hl;have h3:=eT h3;exact aa (bD (by omega) (by omega)) fun q hq=>aa (bO (by omega) (by omega)) fun _ _=>ae fun _=>hl
   ·unfold dK.j1;refine ah (fun _=>ae (fun h=>by cases h)) fun e=>aa (bD (by omega) (by omega)) fun j hj=>ae ⟨?_,hc e⟩;show j=_;omega
  ·unfold dK.b1;exact ah (fun h2=>absurd (eT h2) (by omega)) fun _=>ae fun _=>hall
 ·have e4:=kD e4;exact⟨fun h=>absurd h e0,fun h=>absurd h e4,fun h=>absurd h (hx.2 ex)⟩
theorem JB (o n:Int) (s m:Bs) (ns:List Bs) (ag:List fq):∃ c,dJ o n s m ns ag=some c/\(o=12->c.2=2)/\(o=18->c.2=1)/\(o=11->c.2=3)/\(o=14->c.2=1)/\(o=13->c.2=(ns.length:Int))/\(o=10->c.2=1)/\(3<=o/\o<=9->c.2=2):=by
 unfold dJ dJ.j3 dJ.j2 dJ.j1;simp only[fE];by_cases h0:o=0
 ·subst h0; exact⟨_,rfl,fun h=>absurd h (by decide),fun h=>absurd h (by decide),fun h=>absurd h (by decide),fun h=>absurd h (by decide),fun h=>absurd h (by decide),fun h=>absurd h (by decide),fun h=>absurd h (by decide)⟩
 by_cases h1:o=1
 ·subst h1; exact⟨_,rfl,fun h=>absurd h (by decide),fun h=>absurd h (by decide),fun h=>absurd h (by decide),fun h=>absurd h (by decide),fun h=>absurd h (by decide),fun h=>absurd h (by decide),fun h=>absurd h (by decide)⟩
 by_cases h2:o=2
 ·subst h2; exact⟨_,rfl,fun h=>absurd h (by decide),fun h=>absurd h (by decide),fun h=>absurd h (by decide),fun h=>absurd h (by decide),fun h=>absurd h (by decide),fun h=>absurd h (by decide),fun h=>absurd h (by decide)⟩
 by_cases h3:o=17
 ·subst h3; exact⟨_,rfl,fun h=>absurd h (by decide),fun h=>absurd h (by decide),fun h=>absurd h (by decide),fun h=>absurd h (by decide),fun h=>absurd h (by decide),fun h=>absurd h (by decide),fun h=>absurd h (by decide)⟩
 by_cases h4:o=18
 ·subst h4; exact⟨_,rfl,fun h=>absurd h (by decide),fun _=>rfl,fun h=>absurd h (by decide),fun h=>absurd h (by decide),fun h=>absurd h (by decide),fun h=>absurd h (by decide),fun h=>absurd h (by decide)⟩
 by_cases h5:o=14
 ·subst h5; exact⟨_,rfl,fun h=>absurd h (by decide),fun h=>absurd h (by decide),fun h=>absurd h (by decide),fun _=>rfl,fun h=>absurd h (by decide),fun h=>absurd h (by decide),fun h=>absurd h (by decide)⟩
 by_cases h6:o=16
 ·subst h6; exact⟨_,rfl,fun h=>absurd h (by decide),fun h=>absurd h (by decide),fun h=>absurd h (by decide),fun h=>absurd h (by decide),fun h=>absurd h (by decide),fun h=>absurd h (by decide),fun h=>absurd h (by decide)⟩
 by_cases h7:o=10
 ·subst h7; exact⟨_,rfl,fun h=>absurd h (by decide),fun h=>absurd h (by decide),fun h=>absurd h (by decide),fun h=>absurd h (by decide),fun h=>absurd h (by decide),fun _=>rfl,fun h=>absurd h (by decide)⟩
 by_cases h8:o=12
 ·subst h8; exact⟨_,rfl,fun _=>rfl,fun h=>absurd h (by decide),fun h=>absurd h (by decide),fun h=>absurd h (by decide),fun h=>absurd h (by decide),fun h=>absurd h (by decide),fun h=>absurd h (by decide)⟩
 by_cases h9:o=11
 ·subst h9; exact⟨_,rfl,fun h=>absurd h (by decide),fun h=>absurd h (by decide),fun _=>rfl,fun h=>absurd h (by decide),fun h=>absurd h (by decide),fun h=>absurd h (by decide),fun h=>absurd h (by decide)⟩
 by_cases h10:o=13
 ·subst h10; exact⟨_,rfl,fun h=>absurd h (by decide),fun h=>absurd h (by decide),fun h=>absurd h (by decide),fun h=>absurd h (by decide),fun _=>rfl,fun h=>absurd h (by decide),fun h=>absurd h (by decide)⟩
 rw[decide_eq_false h0,decide_eq_false h1,decide_eq_false h2,decide_eq_false h3,decide_eq_false h4,decide_eq_false h5,decide_eq_false h6,decide_eq_false h7,decide_eq_false h8,decide_eq_false h9,decide_eq_false h10];simp only[cond_false,aA];by_cases h15:o=15
 ·rw[decide_eq_true h15]; exact⟨_,rfl,fun h=>absurd h h8,fun h=>absurd h h4,fun h=>absurd h h9,fun h=>absurd h h5,fun h=>absurd h h10,fun h=>absurd h h7,fun h=>absurd h.2 (by omega)⟩
 ·rw[decide_eq_false h15]; exact⟨_,rfl,fun h=>absurd h h8,fun h=>absurd h h4,fun h=>absurd h h9,fun h=>absurd h h5,fun h=>absurd h h10,fun h=>absurd h h7,fun _=>rfl⟩
def shE:Nat->ck->Prop
 | 0,_=>False
 | d+1,e=>(e.names.length<=12/\e.s.length<=60/\e.m.length<=60)/\e.args.length<=1000/\∀ a∈e.args,shE d a
theorem BX:∀ (d n q:Nat) (e:ck),d<=12->d<n->shE q e->∃ b,aU.rec n e.op e.n e.s e.m e.names (unE e.args) (d:Int)=some b/\(b=true->okE d e)
 | d,0,_,_,_,h,_=>absurd h (by omega)
 | d,n+1,0,_,_,_,h=>h.elim
 | 0,n+1,q+1,e,_,_,_=>⟨false,rfl,fun h=>by cases h⟩
 | d+1,n+1,q+1,e,hd,hn,hs=>by
  obtain⟨s1,s2,s3⟩:=hs;show ∃ b,aU.body (aU.rec n) e.op e.n e.s e.m e.names (unE e.args) ((d+1:Nat):Int)=some b/\_;unfold aU.body aU.j2 aU.j1;rw[fE,decide_eq_false (show ¬ (((d+1:Nat):Int)=0) by omega),cond_false];cases ltZ e.op 0 with
  | true=>exact⟨false,rfl,fun h=>by cases h⟩
  | false =>
  cases leZ 19 e.op with
  | true=>exact⟨false,rfl,fun h=>by cases h⟩
  | false =>
  rw[cond_false,aA,cond_false];obtain⟨c,hc,f12,f18,f11,f14,f13,f10,f39⟩:=JB e.op e.n e.s e.m e.names (unE e.args);obtain⟨lb,hlb,hlq⟩:=JA e.op e.n e.s e.m e.names (unE e.args) (by omega);rw[hc,aA,hlb,jX];have chk:∃ v,(bif (leZ 0 c.2) then (bif (!eqZ c.2 (e.args.length:Int)) then some true else (bif (!eqZ c.1.2.1 e.n) then some true else (bif (!decide (c.1.2.2.1=e.s)) then some true else (bif (!decide (c.1.2.2.2.1=e.m)) then some true else (bif (!eqZ (c.1.2.2.2.2.1.length:Int) (e.names.length:Int)) then some true else ((some lb).bind fun l10=>some (!l10))))))) else
    (bif (!eqZ c.1.2.1 e.n) then some true else (bif (!decide (c.1.2.2.1=e.s)) then some true else (bif (!decide (c.1.2.2.2.1=e.m)) then some true else (bif (!eqZ (c.1.2.2.2.2.1.length:Int) (e.names.length:Int)) then some true else ((some lb).bind fun l11=>some (!l11)))))))=some v/\(v=false->(0<=c.2->c.2=(e.args.length:Int))/\lb=true):=by
   rw[iv];by_cases h0:0<=c.2
   ·rw[decide_eq_true h0,cond_true,fE];by_cases h1:c.2=(e.args.length:Int)
    ·rw[decide_eq_true h1];obtain⟨v,hv,hq⟩:Has (bif (!true) then some true else (bif (!eqZ c.1.2.1 e.n) then some true else (bif (!decide (c.1.2.2.1=e.s)) then some true else (bif (!decide (c.1.2.2.2.1=e.m)) then some true else (bif (!eqZ (c.1.2.2.2.2.1.length:Int) (e.names.length:Int)) then some true else ((some lb).bind fun l10=>some (!l10))))))) (fun v=>v=false->lb=true):=by
      repeat' first
       | exact ae fun h=>by cases h
       | exact aa (ae (Q:=fun b=>b=lb) rfl) fun b hb=>ae fun h=>by rw[← hb]; simpa using h
       | refine ah (fun _=>?_) (fun _=>?_)
     exact⟨v,hv,fun h=>⟨fun _=>h1,hq h⟩⟩
    ·rw[decide_eq_false h1];exact⟨true,rfl,fun h=>by cases h⟩
   ·rw[decide_eq_false h0,cond_false];obtain⟨v,hv,hq⟩:Has (bif (!eqZ c.1.2.1 e.n) then some true else (bif (!decide (c.1.2.2.1=e.s)) then some true else (bif (!decide (c.1.2.2.2.1=e.m)) then some true else (bif (!eqZ (c.1.2.2.2.2.1.length:Int) (e.names.length:Int)) then some true else ((some lb).bind fun l11=>some (!l11)))))) (fun v=>v=false->lb=true):=by
     repeat' first
      | exact ae fun h=>by cases h
      | exact aa (ae (Q:=fun b=>b=lb) rfl) fun b hb=>ae fun h=>by rw[← hb]; simpa using h
      | refine ah (fun _=>?_) (fun _=>?_)
    exact⟨v,hv,fun h=>⟨fun h'=>absurd h' h0,hq h⟩⟩
  obtain⟨v,hv,hv2⟩:=chk;rw[hv,aA];cases v with
  | true=>exact⟨false,rfl,fun h=>by cases h⟩
  | false =>
  rw[cond_false];obtain⟨hcl,hlf⟩:=hv2 rfl;have hlq:=hlq hlf;obtain⟨b,hb,hb2⟩:=pZ (body:=fun x=>aU.b1 (aU.rec n) (unE e.args) ((d+1:Nat):Int) x) (fun i x=>x=(i:Int)/\∀ j (hj:j<e.args.length),j<i->okE d e.args[j]) (Q:=fun b=>b=true->∀ a∈e.args,okE d a) e.args.length (x:=0) ⟨rfl,fun j hj h=>absurd h (by omega)⟩ (fun i hi x hx=>by
   obtain⟨rfl,hP⟩:=hx;unfold aU.b1;simp only[fe1,fe2];rw[jX,dP,decide_eq_true (by omega),cond_true,uD hi,aA,Jd (by omega),aA];obtain⟨b,hb,hb2⟩:=BX d n q e.args[i] (by omega) (by omega) (s3 _ (List.getElem_mem hi));unfold DK;have e1:((d+1:Nat):Int)-1=(d:Int):=by omega
   simp only[e1,hb,aA];cases b with
   | false=>exact .inr ⟨false,rfl,fun h=>by cases h⟩
   | true =>
    rw[Bool.not_true,cond_false,mO (by omega),aA];refine .inl ⟨_,rfl,rfl,fun j hj h=>?_⟩;by_cases hji:j=i
    ·subst hji; exact hb2 rfl
    ·exact hP j hj (by omega)) (fun x hx=>by
   obtain⟨rfl,hP⟩:=hx;unfold aU.b1;rw[jX,dP,decide_eq_false (by omega),cond_false];refine⟨true,rfl,fun _ a ha=>?_⟩;obtain⟨j,hj,rfl⟩:=List.mem_iff_getElem.1 ha;exact hP j hj hj) (by omega)
  refine⟨b,hb,fun h=>⟨s2,fun h'=>?_,fun h'=>?_,fun h'=>?_,fun h'=>?_,fun h'=>?_,⟨fun h'=>?_,fun h'=>?_,hlq.1,hlq.2.1,hlq.2.2⟩,hb2 h⟩⟩
  ·have:=hcl (by rw[f12 h']; omega); rw[f12 h'] at this; omega
  ·have:=hcl (by rw[f18 h']; omega); rw[f18 h'] at this; omega
  ·have:=hcl (by rw[f11 h']; omega); rw[f11 h'] at this; omega
  ·have:=hcl (by rw[f14 h']; omega); rw[f14 h'] at this; omega
  ·have:=hcl (by rw[f13 h']; omega); rw[f13 h'] at this; omega
  ·have:=hcl (by rw[f10 h']; omega); rw[f10 h'] at this; omega
  ·have:=hcl (by rw[f39 h']; omega); rw[f39 h'] at this; omega
noncomputable def Fc (e:ck):Bool:=(dc e.op e.n e.s e.m e.names (unE e.args)).getD false
theorem zK {q:Nat} {e:ck} (h:shE q e):dc e.op e.n e.s e.m e.names (unE e.args)=some (Fc e)/\(Fc e=true->okE 12 e):=by
 obtain⟨b,hb,hb2⟩:=BX 12 jH.n q e (by omega) (tS (by omega)) h;have:dc e.op e.n e.s e.m e.names (unE e.args)=some b:=by
  unfold dc aU;rw[show (12:Int)=((12:Nat):Int) from rfl,hb]; rfl
 unfold Fc;rw[this];exact⟨rfl,hb2⟩
end Go.Proofs.YtkpefpjpadahiaaGreatDoor
namespace Go.Proofs.YtkpefpjpadahiaaGreatDoor
open Go.Lad
theorem nQ {α β:Type} {body:Int->Option (Int⊕Bool)} (a:List α) (b:List β) (f:α->β->Option Bool) (ha:a.length<=1000) (hl:(a.length:Int)=b.length)
  (hf:∀ x∈a,∀ y∈b,Has (f x y) lx)
  (hb:∀ v,body v=bif ltZ v (a.length:Int) then ((idx a v).bind fun x=>(idx b v).bind fun y=>(f x y).bind fun s=>bif !s then some (.inr false) else (z64 (v+1)).bind fun w=>some (.inl w)) else some (.inr true)):Has (bS body 0) lx:=by
 refine kk a (by omega) (fun i x hx=>?_) ?_
 ·obtain⟨hi,_⟩:=List.getElem?_eq_some_iff.1 hx;rw[hb];refine ah (fun _=>?_) fun h2=>absurd (dx h2) (by omega);refine aa (bO (by omega) (by omega)) fun x hx=>aa (bO (by omega) (by omega)) fun y hy=>aa (hf x hx.1 y hy.1) fun _ _=>ah (fun _=>ae trivial) fun _=>aa (bD (by omega) (by omega)) fun j hj=>ae ?_;show j=_;omega
 ·rw[hb];exact ah (fun h2=>absurd (eT h2) (by omega)) fun _=>ae trivial
theorem lens {a b:Nat} (h:(!eqZ (a:Int) (b:Int))=false):(a:Int)=b:=by
 rw[Bool.not_eq_false'] at h;exact dW h
theorem qe (a b:List Bs) (h:a.length<=1000):Has (aP a b) lx:=by
 unfold aP;refine ah (fun _=>ae trivial) fun h1=>?_;exact nQ a b (fun x y=>some (decide (x=y))) h (lens h1) (fun _ _ _ _=>ae trivial) fun v=>rfl
theorem DL (x y:jG) (h1:x.2.1.length<=1000) (h2:x.2.2.2.2.length<=1000):Has (ey x y) lx:=by
 unfold ey;refine ah (fun _=>?_) fun _=>ae trivial;refine ah (fun _=>?_) fun _=>ae trivial;refine ah (fun _=>?_) fun _=>ae trivial;exact aa (oJ _ _ h1) fun _ _=>ah (fun _=>aa (qe _ _ h2) fun _ _=>ae trivial) fun _=>ae trivial
theorem BY (a b:List jG) (h:a.length<=1000) (ha:∀ x∈a,x.2.1.length<=1000/\x.2.2.2.2.length<=1000):Has (aI a b) lx:=by
 unfold aI;refine ah (fun _=>ae trivial) fun h1=>?_;exact nQ a b ey h (lens h1) (fun x hx y _=>DL x y (ha x hx).1 (ha x hx).2) fun v=>rfl
theorem JC (f:bX) (h:f.2.2.2.2.2.1.length<=1000):Has (eZ f) (fun b=>b=true->(∀ k∈f.2.2.2.2.2.1,0<=k/\k<200)/\1<=f.2.2.2.2.2.2.1/\f.2.2.2.2.2.2.1<=1000):=by
 unfold eZ;refine aa (Q:=fun x:Unit⊕Bool=>match x with | .inl _=>∀ k∈f.2.2.2.2.2.1,0<=k/\k<200 | .inr c=>c=false) ?_ fun x hx=>?_
 ·refine qa f.2.2.2.2.2.1 (fun k=>0<=k/\k<200) (by omega) (fun i x hx=>?_) (fun hall=>?_)
  ·obtain⟨hi,_⟩:=List.getElem?_eq_some_iff.1 hx;unfold eZ.b1;refine ah (fun _=>?_) fun h2=>absurd (dx h2) (by omega);refine aa (bO (by omega) (by omega)) fun n hn=>aa (Q:=fun b:Bool=>b=false->0<=n/\n<200) ?_ fun y hy=>?_
   ·refine ah (fun _=>ae (fun h=>by cases h)) fun e1=>ah (fun _=>ae (fun h=>by cases h)) fun e2=>?_;have ok:0<=n/\n<200:=⟨dx e1,yn e2⟩;refine ah (fun h3=>?_) fun _=>ae fun _=>ok;have h3:=eT h3;exact aa (bD (by omega) (by omega)) fun q hq=>aa (bO (by omega) (by omega)) fun _ _=>ae fun _=>ok
   ·unfold eZ.j1;refine ah (fun _=>ae rfl) fun e=>aa (bD (by omega) (by omega)) fun j hj=>ae ⟨?_,?_⟩
    ·show j=_;omega
    ·have h5:=hn.2;rw[Int.toNat_natCast,hx] at h5;rw[Option.some.inj h5];exact hy e
  ·unfold eZ.b1;exact ah (fun h2=>absurd (eT h2) (by omega)) fun _=>ae hall
 ·cases x with
  | inl u =>
   have hx:∀ k∈f.2.2.2.2.2.1,0<=k/\k<200:=hx;show Has (eZ.j2 f) _;unfold eZ.j2;refine ah (fun _=>ah (fun e1=>ae fun e2=>⟨hx,j0 e1,?_⟩) fun _=>ae (fun h=>by cases h)) fun _=>ae (fun h=>by cases h);have:=j0 e2;omega
  | inr b =>
   have hb:b=false:=hx;subst hb;exact ae (fun h=>by cases h)
end Go.Proofs.YtkpefpjpadahiaaGreatDoor
namespace Go.Proofs.YtkpefpjpadahiaaGreatDoor
open Go.Lad
theorem GM (a b:List Int) (h:a.length<=1000):Has (dk a b) lx:=by
 unfold dk;refine ah (fun _=>ae trivial) fun h1=>?_;exact nQ a b (fun x y=>some (eqZ x y)) h (lens h1) (fun _ _ _ _=>ae trivial) fun v=>rfl
theorem DM (x y:im) (h:x.2.length<=1000):Has (eA x y) lx:=by
 unfold eA;exact ah (fun _=>aa (qe _ _ h) fun _ _=>ae trivial) fun _=>ae trivial
theorem BZ (a b:List im) (h:a.length<=1000) (ha:∀ x∈a,x.2.length<=1000):Has (az a b) lx:=by
 unfold az;refine ah (fun _=>ae trivial) fun h1=>?_;exact nQ a b eA h (lens h1) (fun x hx y _=>DM x y (ha x hx)) fun v=>rfl
theorem GN (a b:ff) (h:LY a):Has (fA a b) lx:=by
 obtain⟨h1,h2,h3,h4,h5,h6,h7,h8⟩:=h;unfold fA;refine aa (BY _ _ (by omega) fun x hx=>by have:=h2 x hx; omega) fun _ _=>aa (BZ _ _ (by omega) fun x hx=>by have:=h4 x hx; omega) fun _ _=>?_;refine ah (fun _=>?_) fun _=>ae trivial;refine ah (fun _=>?_) fun _=>ae trivial;refine ah (fun _=>?_) fun _=>ae trivial;refine ah (fun _=>?_) fun _=>ae trivial;refine ah (fun _=>?_) fun _=>ae trivial;exact aa (qe _ _ (by omega)) fun _ _=>ah (fun _=>ae trivial) fun _=>ae trivial
theorem Fe {l:List ck} {x:fq} (h:x∈unE l):∃ e∈l,x=DK e:=by
 obtain⟨k,hk,rfl⟩:=List.mem_iff_getElem.1 h;rw[jX] at hk;have:=uD hk;rw[jg (by rw[jX]; exact hk)] at this;exact⟨l[k],List.getElem_mem hk,Option.some.inj this⟩
theorem yt:∀ (n q:Nat) (a b:ck),shE q a->q<=n->Has (bY.rec n a.op a.n a.s a.m a.names (unE a.args) b.op b.n b.s b.m b.names (unE b.args)) lx
 | n,0,_,_,h,_=>h.elim
 | 0,q+1,_,_,_,hn=>absurd hn (by omega)
 | n+1,q+1,a,b,h,hn=>by
  obtain⟨s1,s2,s3⟩:=h;show Has (bY.body (bY.rec n) a.op a.n a.s a.m a.names (unE a.args) b.op b.n b.s b.m b.names (unE b.args)) lx;unfold bY.body;refine ah (fun _=>?_) fun _=>ae trivial;refine ah (fun _=>?_) fun _=>ae trivial;refine ah (fun _=>?_) fun _=>ae trivial;refine ah (fun _=>?_) fun _=>ae trivial;refine aa (qe _ _ (by omega)) fun _ _=>ah (fun _=>aa (Q:=lx) ?_ fun _ _=>ae trivial) fun _=>ae trivial;unfold aR;refine ah (fun _=>ae trivial) fun h1=>?_;refine nQ (unE a.args) (unE b.args) (fun x y=>bY.rec n x.1 x.2.1 x.2.2.1 x.2.2.2.1 x.2.2.2.2.1 (x.2.2.2.2.2.map (Uun 1)) y.1 y.2.1 y.2.2.1 y.2.2.2.1 y.2.2.2.2.1 (y.2.2.2.2.2.map (Uun 1))) (by rw[jX]; exact s2) (lens h1) (fun x hx y hy=>?_) fun v=>rfl;obtain⟨e,he,rfl⟩:=Fe hx;obtain⟨g,hg,rfl⟩:=Fe hy;exact yt n q e g (s3 e he) (by omega)
end Go.Proofs.YtkpefpjpadahiaaGreatDoor
namespace Go.Proofs.YtkpefpjpadahiaaGreatDoor
open Go.Lad
def DN (x:fq):ck := .mk x.1 x.2.1 x.2.2.1 x.2.2.2.1 x.2.2.2.2.1 x.2.2.2.2.2
structure Pd (a:kS):Prop where
 ranges:a.2.2.1.length<=3
 name:a.2.1.length<=60
 cond:shE 14 (DN a.2.2.2.2)
 nodes:(DN a.2.2.2.2).nd<=20
structure Om (a:kS):Prop where
 id:0<=a.1/\a.1<=1073741824
 name:kf a.2.1=true
 rng:∀ r∈a.2.2.1,small r.1/\small r.2
 func:a.2.2.2.1.length<=20
 cond:dc a.2.2.2.2.1 a.2.2.2.2.2.1 a.2.2.2.2.2.2.1 a.2.2.2.2.2.2.2.1 a.2.2.2.2.2.2.2.2.1 (a.2.2.2.2.2.2.2.2.2.map (Uun 1))=some true
theorem DO (a:kS) (h:Pd a):Has (iV a) (fun b=>b=true->Om a):=by
 obtain⟨h1,h2,h3,h4⟩:=h;unfold iV;refine ah (fun i1=>?_) fun _=>ae (fun h=>by cases h);refine ah (fun i2=>?_) fun _=>ae (fun h=>by cases h);refine aa (ly _) fun p hp=>ah (fun e=>?_) fun _=>ae (fun h=>by cases h);have e:kf a.2.1=true:=by rw[← hp]; exact e
 refine aa (wJ _ (by omega)) fun q hq=>ah (fun i3=>?_) fun _=>ae (fun h=>by cases h);refine aa (iB (Q:=fun b=>b=true->a.2.2.2.1.length<=20) (ng _) fun e=>BW (by rw[ng,e])) fun r hr=>ah (fun i4=>?_) fun _=>ae (fun h=>by cases h);have hc:=(zK h3).1;exact aa (iB (Q:=fun b=>b=Fc (DN a.2.2.2.2)) hc rfl) fun b hb=>ae fun i5=>⟨⟨j0 i1,j0 i2⟩,e,hq i3,hr i4,by rw[← i5,hb]; exact hc⟩
structure mS (f:bX):Prop where
 rel:LY f.2.2.2.1
 adv:Pd f.2.2.2.2.1
 keys:f.2.2.2.2.2.1.length<=12
 name:f.2.1.length<=60
theorem JD (a b:bX) (h:mS a):Has (iK a b) lx:=by
 obtain⟨h1,⟨h2,_,h3,_⟩,h4,_⟩:=h;unfold iK;refine aa (Q:=fun _:Bool=>True) ?_ fun x _=>?_
 ·refine ah (fun _=>?_) fun _=>ae trivial;refine ah (fun _=>?_) fun _=>ae trivial;refine aa (oJ _ _ (by omega)) fun _ _=>ah (fun _=>?_) fun _=>ae trivial;refine ah (fun _=>?_) fun _=>ae trivial;refine aa (Q:=lx) ?_ fun _ _=>ae trivial;exact yt _ 14 (DN a.2.2.2.2.1.2.2.2.2) (DN b.2.2.2.2.1.2.2.2.2) h3 (by show 14<=jH.n; decide)
 ·unfold iK.j1;refine ah (fun _=>?_) fun _=>ae trivial;refine aa (GN _ _ h1) fun _ _=>ah (fun _=>?_) fun _=>ae trivial;refine ah (fun _=>?_) fun _=>ae trivial;refine ah (fun _=>?_) fun _=>ae trivial;refine ah (fun _=>?_) fun _=>ae trivial;refine aa (GM _ _ (by omega)) fun _ _=>ah (fun _=>?_) fun _=>ae trivial;refine ah (fun _=>?_) fun _=>ae trivial;refine ah (fun _=>?_) fun _=>ae trivial;exact ah (fun _=>ae trivial) fun _=>ae trivial
end Go.Proofs.YtkpefpjpadahiaaGreatDoor
namespace Go.Proofs.YtkpefpjpadahiaaGreatDoor
open Go.Lad
theorem JE:∀ l:List ck,@List.map fq ck (Umk 1) (@List.map (UD 1) fq (Uun 1) l)=l
 | []=>rfl
 | x::r=>congr (congrArg List.cons (Il 1 x)) (JE r)
theorem Pe (a:kS):((a.1,a.2.1,a.2.2.1,a.2.2.2.1,a.2.2.2.2.1,a.2.2.2.2.2.1,a.2.2.2.2.2.2.1,a.2.2.2.2.2.2.2.1,a.2.2.2.2.2.2.2.2.1,((a.2.2.2.2.2.2.2.2.2.map (Uun 1)).map (Umk 1))):kS)=a:=by
 have:=JE a.2.2.2.2.2.2.2.2.2;obtain⟨a1,a2,a3,a4,a5,a6,a7,a8,a9,a10⟩:=a;simp only at this ⊢;exact congrArg (fun x=>((a1,a2,a3,a4,a5,a6,a7,a8,a9,x):kS)) this
theorem idA (a:kS):IA a=a:=Pe a
theorem PU (f:bX):((f.1,f.2.1,f.2.2.1,f.2.2.2.1,(f.2.2.2.2.1.1,f.2.2.2.2.1.2.1,f.2.2.2.2.1.2.2.1,f.2.2.2.2.1.2.2.2.1,f.2.2.2.2.1.2.2.2.2.1,f.2.2.2.2.1.2.2.2.2.2.1,f.2.2.2.2.1.2.2.2.2.2.2.1,f.2.2.2.2.1.2.2.2.2.2.2.2.1,f.2.2.2.2.1.2.2.2.2.2.2.2.2.1,((f.2.2.2.2.1.2.2.2.2.2.2.2.2.2.map (Uun 1)).map (Umk 1))),f.2.2.2.2.2):bX)=f:=by
 have:=Pe f.2.2.2.2.1;obtain⟨f1,f2,f3,f4,f5,f6⟩:=f;exact congrArg (fun x=>((f1,f2,f3,f4,x,f6):bX)) this
theorem idF (f:bX):IF f=f:=PU f
def tT (f:bX):Prop :=
 (f.1=0/\LZ f.2.2.2.1)\/((f.1=1\/f.1=2\/f.1=7)/\kf f.2.1=true/\small f.2.2.1/\(f.1=7->0<=f.2.2.2.2.2.2.2.2.1/\f.2.2.2.2.2.2.2.2.1<=1073741824))\/(f.1=3/\Om f.2.2.2.2.1)\/((f.1=4\/f.1=5\/f.1=6)/\kf f.2.1=true/\(∀ k∈f.2.2.2.2.2.1,0<=k/\k<200)/\(1<=f.2.2.2.2.2.2.1/\f.2.2.2.2.2.2.1<=1000)/\0<=f.2.2.2.2.2.2.2.1/\f.2.2.2.2.2.2.2.1<=200000)
def Pf (f:bX):Prop:=tT f/\0<=f.2.2.2.2.2.2.2.2.2/\f.2.2.2.2.2.2.2.2.2<=1073741824
theorem L2 (f:bX) (ok v:Bool) (h:mS f) (hv:v=true->f.1=4\/f.1=5\/f.1=6):Has (bV.j1 f ok v) (fun x=>match x with | .inl y=>y.1=true->tT f/\ok=true | .inr r=>r=false):=by
 unfold bV.j1;rw[idF];refine ah (fun e0=>ah (fun eo=>aa (ly _) fun p hp=>ah (fun e=>?_) fun _=>ae (fun h=>by cases h)) fun _=>ae (fun h=>by cases h)) fun _=>ah (fun e0=>ah (fun eo=>aa (ly _) fun p hp=>ah (fun e=>?_) fun _=>ae (fun h=>by cases h)) fun _=>ae (fun h=>by cases h)) fun _=>ae rfl
 ·have e:kf f.2.1=true:=by rw[← hp]; exact e
  refine aa (JC f (by have:=h.keys; omega)) fun c hc=>ah (fun e1=>?_) fun _=>ae (fun h=>by cases h);obtain⟨k1,k2,k3⟩:=hc e1;have hs:0<=f.2.2.2.2.2.2.2.1/\f.2.2.2.2.2.2.2.1<=200000->tT f:=fun hu=>.inr (.inr (.inr ⟨hv e0,e,k1,⟨k2,k3⟩,hu⟩));exact ah (fun e2=>ae fun _=>⟨hs (by have:=dW e2; omega),eo⟩) fun _=>ah (fun _=>ah (fun e2=>ae fun e3=>⟨hs ⟨j0 e2,j0 e3⟩,eo⟩) fun _=>ae (fun h=>by cases h)) fun _=>ae (fun h=>by cases h)
 ·have e:kf f.2.1=true:=by rw[← hp]; exact e
  refine aa (mP _) fun q hq=>ah (fun e2=>?_) fun _=>ae (fun h=>by cases h);exact ah (fun e3=>ae fun e4=>⟨.inr (.inl ⟨.inr (.inr (dW e0)),e,hq e2,fun _=>⟨j0 e3,j0 e4⟩⟩),eo⟩) fun _=>ae (fun h=>by cases h)
theorem L3 (f:bX) (ok v:Bool) (h:mS f) (hv:v=true->f.1=1\/f.1=2):Has (bV.j2 f ok v) (fun x=>match x with | .inl y=>y.1=true->tT f/\ok=true | .inr r=>r=false):=by
 unfold bV.j2;rw[idA];refine ah (fun e0=>ah (fun eo=>aa (ly _) fun p hp=>ah (fun e=>?_) fun _=>ae (fun h=>by cases h)) fun _=>ae (fun h=>by cases h)) fun _=>ah (fun e0=>ah (fun eo=>aa (DO _ h.adv) fun p hp=>ae fun e=>⟨.inr (.inr (.inl ⟨dW e0,hp e⟩)),eo⟩) fun _=>ae (fun h=>by cases h)) fun _=>aa (Q:=fun b:Bool=>b=true->f.1=4\/f.1=5\/f.1=6) ?_ fun x hx=>L2 f ok x h hx
 ·have e:kf f.2.1=true:=by rw[← hp]; exact e
  exact aa (mP _) fun q hq=>ae fun e2=>⟨.inr (.inl ⟨(hv e0).imp id .inl,e,hq e2,fun e7=>by have:=hv e0; omega⟩),eo⟩
 ·exact ah (fun e=>ae fun _=>.inl (dW e)) fun _=>ah (fun e=>ae fun _=>.inr (.inl (dW e))) fun _=>ae fun e=>.inr (.inr (dW e))
theorem L4 (f:bX) (ok:Bool) (h:mS f):Has (bV.j4 f ok) (fun b=>b=true->tT f/\ok=true):=by
 unfold bV.j4;refine aa (Q:=fun x=>match x with | .inl y=>y.1=true->tT f/\ok=true | .inr r=>r=false) ?_ fun x hx=>?_
 ·refine ah (fun e0=>ah (fun eo=>aa (BU _ h.rel) fun p hp=>ae fun e=>⟨.inl ⟨dW e0,hp e⟩,eo⟩) fun _=>ae (fun h=>by cases h)) fun _=>aa (Q:=fun b:Bool=>b=true->f.1=1\/f.1=2) ?_ fun x hx=>L3 f ok x h hx;exact ah (fun e=>ae fun _=>.inl (dW e)) fun _=>ae fun e=>.inr (dW e)
 ·cases x with
  | inl y =>
   have hy:y.1=true->tT f/\ok=true:=hx;dsimp only;unfold bV.j3;rw[idF];exact ah (fun e=>aa (JD f _ h) fun _ _=>ae fun _=>hy e) fun _=>ae (fun h=>by cases h)
  | inr r =>
   have hr:r=false:=hx;subst hr;exact ae (fun h=>by cases h)
theorem qf (f:bX) (h:mS f):Has (bV f) (fun b=>b=true->Pf f):=by
 unfold bV;refine aa (Q:=fun b:Bool=>b=true->0<=f.2.2.2.2.2.2.2.2.2/\f.2.2.2.2.2.2.2.2.2<=1073741824) (ah (fun e1=>ae fun e2=>⟨j0 e1,j0 e2⟩) fun _=>ae (fun h=>by cases h)) fun x hx=>(L4 f x h).mono fun b hb e=>⟨(hb e).1,hx (hb e).2⟩
end Go.Proofs.YtkpefpjpadahiaaGreatDoor
namespace Go.Proofs.YtkpefpjpadahiaaGreatDoor
open Go.Lad
theorem ct {a b:Bs} (h:a.length+b.length<=1000000000):Has (cat? a b) (fun s=>s=a++b):=⟨a++b,by unfold cat?; rw[if_pos (by omega)],rfl⟩
theorem B0:∀ k u,(mh k u).length<=k
 | 0,u=>Nat.le_refl _
 | k+1,u=>by
  unfold mh;cases Nat.blt u 10
  ·show (mh k (u / 10)++[UInt8.ofNat (48+u % 10)]).length<=k+1;have:=B0 k (u / 10);simp; omega
  ·show (1:Nat)<=k+1;omega
def gW (n:Int):Bs:=mh 20 n.toNat
theorem km {n:Int} (h0:0<=n) (h1:n<=9223372036854775807):Has (strconv_Itoa n) (fun s=>s=gW n):=by
 obtain⟨u,rfl⟩:∃ u:Nat,n=(u:Int):=⟨n.toNat,by omega⟩;refine⟨mh 20 u,?_,rfl⟩;show EW (Int.ofNat u)=_;show cond (Nat.ble u 9223372036854775807) (some (mh 20 u)) none=_;rw[show Nat.ble u 9223372036854775807=true by rw[Nat.ble_eq]; omega];rfl
theorem gX (n:Int):(gW n).length<=20:=B0 _ _
def zL (v:cZ):Bs:=gW v.1++[46]++gW v.2.1++[46]++gW v.2.2
theorem sf (v:cZ):(zL v).length<=62:=by
 have h1:=gX v.1;have h2:=gX v.2.1;have h3:=gX v.2.2;unfold zL;simp only[List.length_append,List.length_cons,List.length_nil];omega
theorem zM {v:cZ} (h:small v):cA v=some true:=by
 obtain⟨h1,h2,h3⟩:=h;unfold cA;rw[iv,iv,decide_eq_true (by omega),decide_eq_true (by omega)];rfl
theorem qW {v:cZ} (h:small v):Has (fG v) (fun s=>s=zL v):=by
 have hs:=zM h;obtain⟨h1,h2,h3⟩:=h;have l1:=gX v.1;have l2:=gX v.2.1;unfold fG;rw[hs];show Has ((strconv_Itoa v.1).bind _) _;refine aa (km (by omega) (by omega)) fun a ha=>?_;subst ha;refine aa (ct (by simp; omega)) fun b hb=>aa (km (by omega) (by omega)) fun c hc=>?_;subst hb hc;refine aa (ct (by simp only[List.length_append,List.length_cons,List.length_nil]; omega)) fun d hd=>?_;subst hd;refine aa (ct (by simp only[List.length_append,List.length_cons,List.length_nil]; omega)) fun e he=>aa (km (by omega) (by omega)) fun g hg=>?_;subst he hg;have l3:=gX v.2.2;exact aa (ct (by simp only[List.length_append,List.length_cons,List.length_nil]; omega)) fun k hk=>ae hk
def dN (f:bX):Bs :=
 if f.1=0 then [114,101,108,101,97,115,101,32]++f.2.2.2.1.1++[32]++zL f.2.2.2.1.2.1
 else if f.1=1\/f.1=2 then [121,97,110,107,32]++f.2.1++[32]++zL f.2.2.1
 else if f.1=3 then [97,100,118,105,115,101,32]++f.2.2.2.2.1.2.1
 else if f.1=7 then [98,117,105,108,100,32]++f.2.1++[32]++zL f.2.2.1
 else [107,101,121,115,32]++f.2.1
theorem uE (f:bX) (h:mS f) (hr:bV f=some true):Has (gh f) (fun s=>s=dN f):=by
 have hs:tT f:=by
  obtain⟨b,hb,hq⟩:=qf f h;rw[hr] at hb;exact (hq (Option.some.inj hb).symm).1
 have n1:=h.name;have n2:=h.rel.name;have n3:=h.adv.name;have v1:=sf f.2.2.2.1.2.1;have v2:=sf f.2.2.1;unfold gh;rw[idF,hr];show Has (bif eqZ f.1 0 then _ else _) _;refine ah (fun e=>?_) fun e=>?_
 ·have e:=dW e;have hv:small f.2.2.2.1.2.1:=by
   rcases hs with h | h | h | h
   ·exact h.2.ver
   ·omega
   ·omega
   ·omega
  refine aa (ct (by simp only[List.length_cons,List.length_nil]; omega)) fun a ha=>?_;subst ha;refine aa (ct (by simp only[List.length_append,List.length_cons,List.length_nil]; omega)) fun a ha=>aa (qW hv) fun b hb=>?_;subst ha hb;refine aa (ct (by simp only[List.length_append,List.length_cons,List.length_nil]; omega)) fun a ha=>ae ?_;rw[ha];unfold dN;rw[if_pos e]
 ·have e:=kD e;refine aa (Q:=fun b:Bool=>b=decide (f.1=1\/f.1=2)) ?_ fun x hx=>?_
  ·refine ah (fun e=>ae ?_) fun e=>ae ?_
   ·have e:=dW e;rw[fE,e]; rfl
   ·have e:=kD e;rw[fE];simp [e]
  ·unfold gh.j1;refine ah (fun e2=>?_) fun e2=>?_
   ·have e2:f.1=1\/f.1=2:=by rw[hx] at e2; simpa using e2
    have hv:small f.2.2.1:=by
     rcases hs with h | h | h | h
     ·omega
     ·exact h.2.2.1
     ·omega
     ·omega
    refine aa (ct (by simp only[List.length_cons,List.length_nil]; omega)) fun a ha=>?_;subst ha;refine aa (ct (by simp only[List.length_append,List.length_cons,List.length_nil]; omega)) fun a ha=>aa (qW hv) fun b hb=>?_;subst ha hb;refine aa (ct (by simp only[List.length_append,List.length_cons,List.length_nil]; omega)) fun a ha=>ae ?_;rw[ha];unfold dN;rw[if_neg e,if_pos e2]
   ·have e2:¬ (f.1=1\/f.1=2):=by rw[hx] at e2; simpa using e2
    refine ah (fun e3=>?_) fun e3=>ah (fun e4=>?_) fun e4=>?_
    ·have e3:=dW e3;refine aa (ct (by simp only[List.length_cons,List.length_nil]; omega)) fun a ha=>ae ?_;rw[ha];unfold dN;rw[if_neg e,if_neg e2,if_pos e3]
    ·have e3:=kD e3;have e4:=dW e4;have hv:small f.2.2.1:=by
      rcases hs with h | h | h | h
      ·omega
      ·exact h.2.2.1
      ·omega
      ·omega
     refine aa (ct (by simp only[List.length_cons,List.length_nil]; omega)) fun a ha=>?_;subst ha;refine aa (ct (by simp only[List.length_append,List.length_cons,List.length_nil]; omega)) fun a ha=>aa (qW hv) fun b hb=>?_;subst ha hb;refine aa (ct (by simp only[List.length_append,List.length_cons,List.length_nil]; omega)) fun a ha=>ae ?_;rw[ha];unfold dN;rw[if_neg e,if_neg e2,if_neg e3,if_pos e4]
    ·have e3:=kD e3;have e4:=kD e4;refine aa (ct (by simp only[List.length_cons,List.length_nil]; omega)) fun a ha=>ae ?_;rw[ha];unfold dN;rw[if_neg e,if_neg e2,if_neg e3,if_neg e4]
theorem pE (f:bX) (h:mS f):(dN f).length<=200:=by
 have n1:=h.name;have n2:=h.rel.name;have n3:=h.adv.name;have v1:=sf f.2.2.2.1.2.1;have v2:=sf f.2.2.1;unfold dN;split
 ·simp only[List.length_append,List.length_cons,List.length_nil]; omega
 ·split
  ·simp only[List.length_append,List.length_cons,List.length_nil]; omega
  ·split
   ·simp only[List.length_append,List.length_cons,List.length_nil]; omega
   ·split
    ·simp only[List.length_append,List.length_cons,List.length_nil]; omega
    ·simp only[List.length_append,List.length_cons,List.length_nil]; omega
end Go.Proofs.YtkpefpjpadahiaaGreatDoor
namespace Go.Proofs.YtkpefpjpadahiaaGreatDoor
open Go.Lad
theorem yu:∀ (d n:Nat) (e:ck) (most:Int),d<n->d<=1000->0<=most->most<=1000->Has (aF.rec n e.op e.n e.s e.m e.names (unE e.args) most (d:Int)) (fun r=>1<=r/\r<=most+1/\(r<=most->shE d e/\(e.nd:Int)=r))
 | d,0,_,_,h,_,_,_=>absurd h (by omega)
 | d,n+1,e,most,hd,hd2,h0,h1=>by
  show Has (aF.body (aF.rec n) e.op e.n e.s e.m e.names (unE e.args) most (d:Int)) _;unfold aF.body;refine aa (Q:=fun b:Bool=>b=false->1<=d/\(e.names.length<=12/\e.s.length<=60/\e.m.length<=60)) ?_ fun b hb=>?_
  ·refine ah (fun _=>ae (fun h=>by cases h)) fun e1=>ah (fun _=>ae (fun h=>by cases h)) fun e2=>?_;have e1:=dx e1;have e2:=dx e2;exact ah (fun _=>ae (fun h=>by cases h)) fun e3=>ae fun e4=>(by have e3:=dx e3; have e4:=dx e4; omega)
  ·unfold aF.j2;refine ah (fun _=>aa (bD (by omega) (by omega)) fun v hv=>ae ⟨by omega,by omega,fun h=>by omega⟩) fun e0=>?_;obtain⟨hd1,hnm⟩:=hb e0;obtain⟨d,rfl⟩:∃ k,d=k+1:=⟨d-1,by omega⟩;refine fK (fun x=>∃ i:Nat,x.2=(i:Int)/\(i:Int)+1<=x.1/\i<=e.args.length/\x.1<=most+1/\(x.1<=most->(∀ j (hj:j<e.args.length),j<i->shE d e.args[j])/\x.1=(ck.nds (e.args.take i):Int)+1)) (fun x=>(most+1-x.1).toNat) ⟨0,rfl,by show (0:Int)+1<=1; omega,Nat.zero_le _,by show (1:Int)<=most+1; omega,fun _=>⟨fun j _ hj=>by omega,by show (1:Int)=(ck.nds (e.args.take 0):Int)+1; rw[List.take_zero,ck.nds]; rfl⟩⟩ (by show (most+1-1).toNat<=_; omega) (fun x hx _=>?_);obtain⟨m,i'⟩:=x;obtain⟨i,x1,x2,x3,x4,x5⟩:=hx;simp only at x1 x2 x4 x5;subst x1;show Has (aF.b1 (aF.rec n) (unE e.args) most ((d+1:Nat):Int) m (i:Int)) _;unfold aF.b1;refine aa (Q:=fun b:Bool=>(b=true->i<e.args.length/\m<=most)/\(b=false->i=e.args.length\/most<m)) ?_ fun c hc=>?_
   ·refine ah (fun e3=>ae ?_) fun e3=>ae ?_
    ·have e3:=eT e3;rw[jX] at e3;exact⟨fun h=>⟨by omega,j0 h⟩,fun h=>.inr (yn h)⟩
    ·have e3:=dx e3;rw[jX] at e3;refine⟨fun h=>?_,fun _=>Or.inl (by omega)⟩;cases h
   ·unfold aF.j1;refine ah (fun e3=>?_) fun e3=>?_
    ·obtain⟨hi,hm⟩:=hc.1 e3;refine aa (iB (Q:=fun g=>g=DK e.args[i]) (uD hi) rfl) fun g hg=>aa (bD (by omega) (by omega)) fun p hp=>aa (bD (by omega) (by omega)) fun q hq=>?_;subst hg hp;have hq:q=(d:Int):=by omega
     subst hq;refine aa (yu d n e.args[i] (most-m) (by omega) (by omega) (by omega) (by omega)) fun t ht=>aa (bD (by omega) (by omega)) fun u hu=>aa (bD (by omega) (by omega)) fun w hw=>ae ?_;subst hu hw;obtain⟨t1,t2,t3⟩:=ht;refine⟨⟨i+1,rfl,by show ((i+1:Nat):Int)+1<=m+t; omega,hi,by show m+t<=most+1; omega,fun hle=>⟨fun j hj hji=>?_,by show m+t=(ck.nds (e.args.take (i+1)):Int)+1; have hle:m+t<=most:=hle; have:=(x5 hm).2; have:=(t3 (by omega)).2; rw[ck.mR hi]; omega⟩⟩,by show (most+1-(m+t)).toNat<(most+1-m).toNat; omega⟩;have hle:m+t<=most:=hle;rcases Nat.lt_or_ge j i with h | h
     ·exact (x5 hm).1 j hj h
     ·have:j=i:=by omega
      subst this;exact (t3 (by omega)).1
    ·refine ae ⟨by omega,x4,fun hle=>?_⟩;have hi:i=e.args.length:=by
      rcases hc.2 e3 with h | h
      ·exact h
      ·omega
     refine⟨⟨hnm,by omega,fun a ha=>?_⟩,?_⟩
     ·obtain⟨j,hj,rfl⟩:=List.mem_iff_getElem.1 ha;exact (x5 hle).1 j hj (by omega)
     ·have h5:=(x5 hle).2;rw[hi,List.take_length] at h5;rw[ck.se,h5]; omega
end Go.Proofs.YtkpefpjpadahiaaGreatDoor
namespace Go.Proofs.YtkpefpjpadahiaaGreatDoor
open Go.Lad
abbrev L5 (n:jG):Prop:=n.2.1.length<=3/\n.2.2.2.2.length<=3/\n.1.length<=60
theorem JF (f:bX):Has (bS (fun x=>ao.b1 f x) 0) (fun r=>match r with | .inl _=>f.2.2.2.1.2.2.2.1.length<=3->∀ n∈f.2.2.2.1.2.2.2.1,L5 n | .inr y=>y = .inr false):=by
 refine fK (fun x=>∃ i:Nat,x=(i:Int)/\i<=4/\i<=f.2.2.2.1.2.2.2.1.length/\∀ j (hj:j<f.2.2.2.1.2.2.2.1.length),j<i->L5 f.2.2.2.1.2.2.2.1[j]) (fun x=>(4-x).toNat) ⟨0,rfl,by omega,Nat.zero_le _,fun j _ hj=>by omega⟩ (by show (4-(0:Int)).toNat<=_; decide) (fun x hx _=>?_);obtain⟨i,rfl,h1,h2,h3⟩:=hx;show Has (ao.b1 f (i:Int)) _;unfold ao.b1;refine aa (Q:=fun b:Bool=>(b=true->i<f.2.2.2.1.2.2.2.1.length/\i<4)/\(b=false->i=f.2.2.2.1.2.2.2.1.length\/i=4)) ?_ fun c hc=>?_
 ·refine ah (fun e=>ae ?_) fun e=>ae ?_
  ·have e:=eT e;exact⟨fun h=>⟨by omega,by have:=eT h; omega⟩,fun h=>Or.inr (by have:=dx h; omega)⟩
  ·have e:=dx e;refine⟨fun h=>?_,fun _=>Or.inl (by omega)⟩;cases h
 ·unfold ao.j2;refine ah (fun e=>?_) fun e=>ae fun hl n hn=>?_
  ·obtain⟨hi,hi4⟩:=hc.1 e;have hx:=jg hi;refine aa (Q:=fun b:Bool=>b=false->L5 f.2.2.2.1.2.2.2.1[i]) ?_ fun b hb=>?_
   ·rw[hx];show Has (bif _ then _ else _) _;refine ah (fun _=>ae (fun h=>by cases h)) fun e1=>?_;show Has (bif _ then _ else _) _;refine ah (fun _=>ae (fun h=>by cases h)) fun e2=>?_;refine ae fun e3=>?_;have e1:=dx e1;have e2:=dx e2;have e3:=dx e3;exact⟨by omega,by omega,by omega⟩
   ·unfold ao.j1;refine ah (fun _=>ae rfl) fun e1=>aa (bD (by omega) (by omega)) fun w hw=>ae ?_;subst hw;refine⟨⟨i+1,rfl,by omega,hi,fun j hj hji=>?_⟩,by show (4-((i:Int)+1)).toNat<(4-(i:Int)).toNat; omega⟩;rcases Nat.lt_or_ge j i with h | h
    ·exact h3 j hj h
    ·have:j=i:=by omega
     subst this;exact hb e1
  ·obtain⟨j,hj,rfl⟩:=List.mem_iff_getElem.1 hn;refine h3 j hj ?_;rcases hc.2 e with h | h <;> omega
theorem JG (f:bX):Has (bS (fun x=>ao.b2 f x) 0) (fun r=>match r with | .inl _=>f.2.2.2.1.2.2.2.2.1.length<=3->∀ n∈f.2.2.2.1.2.2.2.2.1,n.2.length<=3 | .inr y=>y = .inr false):=by
 refine fK (fun x=>∃ i:Nat,x=(i:Int)/\i<=4/\i<=f.2.2.2.1.2.2.2.2.1.length/\∀ j (hj:j<f.2.2.2.1.2.2.2.2.1.length),j<i->f.2.2.2.1.2.2.2.2.1[j].2.length<=3) (fun x=>(4-x).toNat) ⟨0,rfl,by omega,Nat.zero_le _,fun j _ hj=>by omega⟩ (by show (4-(0:Int)).toNat<=_; decide) (fun x hx _=>?_);obtain⟨i,rfl,h1,h2,h3⟩:=hx;show Has (ao.b2 f (i:Int)) _;unfold ao.b2;refine aa (Q:=fun b:Bool=>(b=true->i<f.2.2.2.1.2.2.2.2.1.length/\i<4)/\(b=false->i=f.2.2.2.1.2.2.2.2.1.length\/i=4)) ?_ fun c hc=>?_
 ·refine ah (fun e=>ae ?_) fun e=>ae ?_
  ·have e:=eT e;exact⟨fun h=>⟨by omega,by have:=eT h; omega⟩,fun h=>Or.inr (by have:=dx h; omega)⟩
  ·have e:=dx e;refine⟨fun h=>?_,fun _=>Or.inl (by omega)⟩;cases h
 ·unfold ao.j3;refine ah (fun e=>?_) fun e=>ae fun hl n hn=>?_
  ·obtain⟨hi,hi4⟩:=hc.1 e;rw[jg hi];show Has (bif _ then _ else _) _;refine ah (fun _=>ae rfl) fun e1=>aa (bD (by omega) (by omega)) fun w hw=>ae ?_;subst hw;have e1:=dx e1;refine⟨⟨i+1,rfl,by omega,hi,fun j hj hji=>?_⟩,by show (4-((i:Int)+1)).toNat<(4-(i:Int)).toNat; omega⟩;rcases Nat.lt_or_ge j i with h | h
   ·exact h3 j hj h
   ·have:j=i:=by omega
    subst this;omega
  ·obtain⟨j,hj,rfl⟩:=List.mem_iff_getElem.1 hn;refine h3 j hj ?_;rcases hc.2 e with h | h <;> omega
theorem JH (f:bX) (i:Nat) (hi:i<=1000) (h1:f.2.2.2.1.2.2.2.1.length<=3->∀ n∈f.2.2.2.1.2.2.2.1,L5 n) (h2:f.2.2.2.1.2.2.2.2.1.length<=3->∀ n∈f.2.2.2.1.2.2.2.2.1,n.2.length<=3) :
  Has (ao.j5 (i:Int) f) (fun r=>match r with | .inl y=>y=((i+1:Nat):Int)/\mS f | .inr b=>b=false):=by
 unfold ao.j5;refine aa (Q:=fun b:Bool=>b=false->mS f) ?_ fun b hb=>?_
 ·refine ah (fun _=>ae (fun h=>by cases h)) fun e1=>?_;refine ah (fun _=>ae (fun h=>by cases h)) fun e2=>?_;refine ah (fun _=>ae (fun h=>by cases h)) fun e3=>?_;refine ah (fun _=>ae (fun h=>by cases h)) fun e4=>?_;refine ah (fun _=>ae (fun h=>by cases h)) fun e5=>?_;refine ah (fun _=>ae (fun h=>by cases h)) fun e6=>?_;refine ah (fun _=>ae (fun h=>by cases h)) fun e7=>?_;refine ah (fun _=>ae (fun h=>by cases h)) fun e8=>?_;refine ah (fun _=>ae (fun h=>by cases h)) fun e9=>?_;refine ah (fun _=>ae (fun h=>by cases h)) fun e10=>?_;have e1:=dx e1;have e2:=dx e2;have e3:=dx e3;have e4:=dx e4;have e5:=dx e5;have e6:=dx e6;have e7:=dx e7;have e8:=dx e8;have e9:=dx e9;have e10:=dx e10;refine aa (yu 14 jH.n (DN f.2.2.2.2.1.2.2.2.2) 20 (by decide) (by omega) (by omega) (by omega)) fun r hr=>ae fun e11=>?_;have e11:=dx e11;exact⟨⟨by omega,h1 (by omega),by omega,h2 (by omega),by omega,by omega,by omega,by omega⟩,⟨by omega,by omega,(hr.2.2 e11).1,by have:=(hr.2.2 e11).2; omega⟩,by omega,by omega⟩
 ·unfold ao.j4;refine ah (fun _=>ae rfl) fun e=>aa (bD (by omega) (by omega)) fun v hv=>ae ⟨by omega,hb e⟩
theorem Ff (l:List bX) (n:Nat) (hn:n<=100):Has (ao l (n:Int)) (fun b=>b=true->l.length<=n/\∀ f∈l,mS f):=by
 unfold ao;refine fK (fun x=>∃ i:Nat,x=(i:Int)/\i<=n+1/\i<=l.length/\∀ j (hj:j<l.length),j<i->mS l[j]) (fun x=>((n:Int)+1-x).toNat) ⟨0,rfl,by omega,Nat.zero_le _,fun j _ hj=>by omega⟩ (by show ((n:Int)+1-0).toNat<=_; omega) (fun x hx _=>?_);obtain⟨i,rfl,h1,h2,h3⟩:=hx;show Has (ao.b3 l (n:Int) (i:Int)) _;unfold ao.b3;refine aa (Q:=fun b:Bool=>(b=true->i<l.length/\i<=n)/\(b=false->i=l.length\/n<i)) ?_ fun c hc=>?_
 ·refine ah (fun e=>ae ?_) fun e=>ae ?_
  ·have e:=eT e;exact⟨fun h=>⟨by omega,by have:=j0 h; omega⟩,fun h=>Or.inr (by have:=yn h; omega)⟩
  ·have e:=dx e;refine⟨fun h=>?_,fun _=>Or.inl (by omega)⟩;cases h
 ·unfold ao.j7;refine ah (fun e=>?_) fun e=>ae fun hl=>?_
  ·obtain⟨hi,hin⟩:=hc.1 e;rw[jg hi];show Has ((bS (fun x=>ao.b1 l[i] x) 0).bind _) _;refine aa (JF l[i]) fun r1 hr1=>?_;cases r1 with
   | inr y =>
    have hy:y = .inr false:=hr1;subst hy;exact ae (fun h=>by cases h)
   | inl u =>
    show Has (ao.j6 (i:Int) l[i]) _;unfold ao.j6;refine aa (JG l[i]) fun r2 hr2=>?_;cases r2 with
    | inr y =>
     have hy:y = .inr false:=hr2;subst hy;exact ae (fun h=>by cases h)
    | inl u =>
     show Has (ao.j5 (i:Int) l[i]) _;refine (JH l[i] i (by omega) hr1 hr2).mono fun r hr=>?_;cases r with
     | inl y =>
      obtain⟨hy,hf⟩:=hr;subst hy;refine⟨⟨i+1,rfl,by omega,hi,fun j hj hji=>?_⟩,by show ((n:Int)+1-((i+1:Nat):Int)).toNat<((n:Int)+1-(i:Int)).toNat; omega⟩;rcases Nat.lt_or_ge j i with h | h
      ·exact h3 j hj h
      ·have:j=i:=by omega
       subst this;exact hf
     | inr b =>
      have hb:b=false:=hr;subst hb;exact fun h=>by cases h
  ·have hl:=j0 hl;refine⟨by omega,fun f hf=>?_⟩;obtain⟨j,hj,rfl⟩:=List.mem_iff_getElem.1 hf;refine h3 j hj ?_;rcases hc.2 e with h | h <;> omega
end Go.Proofs.YtkpefpjpadahiaaGreatDoor
namespace Go.Proofs.YtkpefpjpadahiaaGreatDoor
open Go.Lad
def np (s:Bs):Bs:=gW (s.length:Int)++[58]++s++[44]
def nuB (n:Int):Bs:=if n<0 then [] else gW n++[59]
theorem iN (s:Bs):(np s).length<=s.length+22:=by
 have:=gX (s.length:Int);unfold np;simp only[List.length_append,List.length_cons,List.length_nil];omega
theorem gC (n:Int):(nuB n).length<=21:=by
 have:=gX n;unfold nuB;split
 ·simp
 ·simp only[List.length_append,List.length_cons,List.length_nil]; omega
theorem fN (s:Bs) (h:s.length<=1000000):Has (cK s) (fun t=>t=np s):=by
 have l1:=gX (s.length:Int);unfold cK;refine aa (km (by omega) (by omega)) fun a ha=>?_;subst ha;refine aa (ct (by simp only[List.length_cons,List.length_nil]; omega)) fun a ha=>?_;subst ha;refine aa (ct (by simp only[List.length_append,List.length_cons,List.length_nil]; omega)) fun a ha=>?_;subst ha;exact aa (ct (by simp only[List.length_append,List.length_cons,List.length_nil]; omega)) fun a ha=>ae ha
theorem gx (n:Int) (h:n<=9223372036854775807):Has (dm n) (fun t=>t=nuB n):=by
 have l1:=gX n;unfold dm;refine ah (fun e=>ae ?_) fun e=>?_
 ·unfold nuB;rw[if_pos (eT e)]
 ·have e:=dx e;unfold jr;refine aa (Q:=fun t=>t=nuB n) (aa (km e h) fun a ha=>?_) fun a ha=>ae ha;subst ha;refine aa (ct (by simp only[List.length_cons,List.length_nil]; omega)) fun a ha=>ae ?_;rw[ha];unfold nuB;rw[if_neg (by omega)]
theorem DP (v:cZ) (h:v.1<=9223372036854775807/\v.2.1<=9223372036854775807/\v.2.2<=9223372036854775807):Has (ed v) (fun t=>t=nuB v.1++nuB v.2.1++nuB v.2.2):=by
 have l1:=gC v.1;have l2:=gC v.2.1;have l3:=gC v.2.2;unfold ed;refine aa (gx _ h.1) fun a ha=>aa (gx _ h.2.1) fun b hb=>?_;subst ha hb;refine aa (ct (by omega)) fun c hc=>aa (gx _ h.2.2) fun d hd=>?_;subst hc hd;exact aa (ct (by rw[List.length_append]; omega)) fun e he=>ae he
end Go.Proofs.YtkpefpjpadahiaaGreatDoor
namespace Go.Proofs.YtkpefpjpadahiaaGreatDoor
open Go.Lad
theorem uF {d:Nat} (h:d<10):(UInt8.ofNat (48+d)).toNat=48+d:=by
 rw[UInt8.toNat_ofNat'];omega
theorem zN {k u:Nat} (h:u<10):mh (k+1) u=[UInt8.ofNat (48+u)]:=by
 have hb:Nat.blt u 10=true:=by rw[Nat.blt_eq]; exact h
 unfold mh;rw[hb]; rfl
theorem zO {k u:Nat} (h:10<=u):mh (k+1) u=mh k (u / 10)++[UInt8.ofNat (48+u % 10)]:=by
 have hb:Nat.blt u 10=false:=by
  cases hb:Nat.blt u 10
  ·rfl
  ·rw[Nat.blt_eq] at hb; omega
 rw[mh,hb]; rfl
theorem B1:∀ k u,∀ c∈mh k u,48<=c.toNat/\c.toNat<=57
 | 0,u,c,h=>by cases h
 | k+1,u,c,h=>by
  rcases Nat.lt_or_ge u 10 with hu | hu
  ·rw[zN hu] at h;rw[List.mem_singleton.1 h,uF hu]; omega
  ·rw[zO hu] at h;rcases List.mem_append.1 h with h | h
   ·exact B1 k _ c h
   ·rw[List.mem_singleton.1 h,uF (Nat.mod_lt _ (by omega))]; have:=Nat.mod_lt u (show 10 > 0 by omega); omega
theorem yv (c:UInt8):∀ (s:Bs) (a:Nat),qV a (s++[c])=(qV a s).bind fun v=>cond (Nat.ble 48 c.toNat && Nat.ble c.toNat 57) (some (v * 10+(c.toNat-48))) none
 | [],a=>rfl
 | x::r,a=>by
  show cond _ (qV _ (r++[c])) none=(cond _ (qV _ r) none).bind _;cases (Nat.ble 48 x.toNat && Nat.ble x.toNat 57)
  ·rfl
  ·exact yv c r _
theorem Pg {c:UInt8} (h:48<=c.toNat/\c.toNat<=57):(Nat.ble 48 c.toNat && Nat.ble c.toNat 57)=true:=by
 rw[Bool.and_eq_true,Nat.ble_eq,Nat.ble_eq]; exact h
theorem M5 {k u:Nat} (h:u<10 ^ (k+1)):u / 10<10 ^ k:=by
 rw[Nat.pow_succ] at h;exact Nat.div_lt_of_lt_mul (by omega)
theorem JI {k u:Nat} (h:u<10 ^ (k+1)) (hu:10<=u):1<=k:=by
 rcases k with _ | k
 ·simp at h; omega
 ·omega
theorem B2:∀ k u,1<=k->u<10 ^ k->qV 0 (mh k u)=some u
 | 0,u,h,_=>absurd h (by omega)
 | k+1,u,_,h=>by
  rcases Nat.lt_or_ge u 10 with hu | hu
  ·rw[zN hu];have h1:=uF hu;show cond _ (some (0 * 10+((UInt8.ofNat (48+u)).toNat-48))) none=some u;rw[Pg (by rw[h1]; omega),h1];show some (0 * 10+(48+u-48))=some u;congr 1; omega
  ·have hm:=Nat.mod_lt u (show 10 > 0 by omega);have h1:=uF hm;rw[zO hu,yv,B2 k _ (JI h hu) (M5 h),Pg (by rw[h1]; omega),h1];show some (u / 10 * 10+(48+u % 10-48))=some u;congr 1; omega
theorem yw:∀ k m u,1<=m->u<10 ^ m->(mh k u).length<=m
 | 0,m,u,_,_=>Nat.zero_le _
 | k+1,0,u,h,_=>absurd h (by omega)
 | k+1,m+1,u,_,h=>by
  rcases Nat.lt_or_ge u 10 with hu | hu
  ·rw[zN hu]; show 1<=m+1; omega
  ·rw[zO hu,List.length_append];have:=yw k m (u / 10) (JI h hu) (M5 h);show _+1<=_; omega
theorem Fg {k u:Nat} (h:1<=k):mh k u≠[]:=by
 obtain⟨k,rfl⟩:∃ j,k=j+1:=⟨k-1,by omega⟩;rcases Nat.lt_or_ge u 10 with hu | hu
 ·rw[zN hu]; exact List.cons_ne_nil _ _
 ·rw[zO hu]; simp
theorem JJ {n:Int} (h0:0<=n) (h1:n<1000000000000000000):yk (gW n)=some n:=by
 obtain⟨u,rfl⟩:∃ u:Nat,n=(u:Int):=⟨n.toNat,by omega⟩;have hu:u<10 ^ 18:=by show u<1000000000000000000; omega
 have hv:qV 0 (mh 20 u)=some u:=B2 20 u (by omega) (Nat.lt_of_lt_of_le hu (Nat.pow_le_pow_right (by omega) (by omega)));have hl:=yw 20 18 u (by omega) hu;have hn:mh 20 u≠[]:=Fg (by omega);show yk (mh 20 u)=_;cases hd:mh 20 u with
 | nil=>exact absurd hd hn
 | cons c r =>
  rw[hd] at hv hl;unfold yk;show cond (Nat.ble (c::r).length 18) ((qV 0 (c::r)).map Int.ofNat) none=_;rw[show Nat.ble (c::r).length 18=true by rw[Nat.ble_eq]; exact hl,hv]; rfl
theorem Fh (c:UInt8) (r:Bs):∀ (d:Bs) (i:Nat),(∀ x∈d,x≠c)->BG (d++c::r) c.toNat i=((i+d.length:Nat):Int)
 | [],i,_=>by
  show cond (Nat.beq c.toNat c.toNat) (i:Int) _=_;rw[show Nat.beq c.toNat c.toNat=true by rw[Nat.beq_eq]]; rfl
 | x::d,i,h=>by
  show cond (Nat.beq x.toNat c.toNat) (i:Int) (BG (d++c::r) c.toNat (i+1))=_;have hb:Nat.beq x.toNat c.toNat=false:=by
   cases hb:Nat.beq x.toNat c.toNat
   ·rfl
   ·exact absurd (UInt8.toNat_inj.1 (by rw[Nat.beq_eq] at hb; exact hb)) (h x List.mem_cons_self)
  rw[hb];show BG (d++c::r) c.toNat (i+1)=_;rw[Fh c r d (i+1) fun y hy=>h y (List.mem_cons_of_mem _ hy),List.length_cons];congr 1; omega
theorem JK (n:Int):∀ c∈gW n,48<=c.toNat/\c.toNat<=57:=B1 _ _
end Go.Proofs.YtkpefpjpadahiaaGreatDoor
namespace Go.Proofs.YtkpefpjpadahiaaGreatDoor
open Go.Lad
theorem has_fold {α β σ:Type} {body:Int×σ->Option ((Int×σ)⊕β)} {R:β->Prop} (l:List α) (I:Nat->σ->Prop) (hl:l.length<=1000) {s0:σ} (h0:I 0 s0)
  (h:∀ i (hi:i<l.length) s,I i s->Has (body ((i:Int),s)) fun r=>match r with | .inl y=>y.1=((i+1:Nat):Int)/\I (i+1) y.2 | .inr b=>R b)
  (he:∀ s,I l.length s->Has (body ((l.length:Int),s)) fun r=>match r with | .inl _=>False | .inr b=>R b):Has (bS body (0,s0)) R:=by
 refine fK (fun x=>∃ i:Nat,x.1=(i:Int)/\i<=l.length/\I i x.2) (fun x=>l.length-x.1.toNat) ⟨0,rfl,Nat.zero_le _,h0⟩ (by show l.length-_<=_; omega) (fun x hx _=>?_);obtain⟨v,s⟩:=x;obtain⟨i,x1,x2,x3⟩:=hx;simp only at x1 x3;subst x1;rcases Nat.lt_or_ge i l.length with hi | hi
 ·refine (h i hi s x3).mono fun r hr=>?_;cases r with
  | inl y =>
   obtain⟨y1,y2⟩:=hr;exact⟨⟨i+1,y1,hi,y2⟩,by show l.length-y.1.toNat<l.length-((i:Int)).toNat; rw[y1]; omega⟩
  | inr b=>exact hr
 ·have:i=l.length:=by omega
  subst this;refine (he s x3).mono fun r hr=>?_;cases r with
  | inl y=>exact hr.elim
  | inr b=>exact hr
theorem JL {α:Type} {l:List α} {i:Nat} (hi:i<l.length) {x:α} (h:x∈l/\l[((i:Nat):Int).toNat]?=some x):x=l[i]:=by
 have h5:=h.2;rw[Int.toNat_natCast,List.getElem?_eq_getElem hi] at h5;exact (Option.some.inj h5).symm
theorem DQ (a b:Bs):bJ a++bJ b=bJ (a++b):=by unfold bJ; rw[List.map_append]
theorem sg {a s:Bs} (h:a.length+s.length<=1000000):Has (app? (bJ a) (bJ s)) (fun r=>r=bJ (a++s)):=by
 refine (mi (by rw[mJ,mJ]; exact h)).mono fun r hr=>?_;rw[hr,DQ]
theorem zP (s:Bs) (h:s.length<=1000000):Has (bo s) (fun r=>r.2=bJ s):=by
 show Has ((app? [] (bJ s)).bind _) _;exact aa (sg (a:=[]) (s:=s) (by simpa using h)) fun r hr=>ae hr
theorem qg (s a:Bs) (h:a.length+s.length<=1000000):Has (aQ s (bJ a)) (fun r=>r.2=bJ (a++s)):=by
 show Has ((app? (bJ a) (bJ s)).bind _) _;exact aa (sg h) fun r hr=>ae hr
theorem L6 (s a:Bs) (b:Bool) (h:a.length+s.length<=1000000):Has (cP s b (bJ a)) (fun r=>r.2.2=bJ (a++s)):=by
 show Has ((app? (bJ a) (bJ s)).bind _) _;exact aa (sg h) fun r hr=>ae hr
theorem L7 (a:Bs) (b:Bool) (h:a.length+1<=1000000):Has (dB 32 b (bJ a)) (fun r=>r.2=bJ (a++[32])):=by
 show Has ((app? (bJ a) (bJ [32])).bind _) _;exact aa (sg (s:=[32]) h) fun r hr=>ae hr
theorem tU {t:Bs} (h0:t≠[]) (h:t.length<=2147483647):qy (bJ t)=some t:=by
 have h1:Nat.blt 0 (bJ t).length=true:=by
  rw[mJ,Nat.blt_eq];exact List.length_pos_iff.2 h0
 have h3:Nat.ble (bJ t).length 2147483647=true:=by rw[mJ,Nat.ble_eq]; exact h
 unfold qy;rw[h1,h3,Bool.true_and,Bool.and_true];refine (congrArg (fun b:Bool=>cond b (some (List.map (fun n:Int=>UInt8.ofNat n.toNat) (bJ t))) none) (List.all_eq_true.2 fun x hx=>?_)).trans ?_
 ·obtain⟨c,hc,rfl⟩:=List.mem_map.1 hx;show Nat.ble c.toNat 255=true;rw[Nat.ble_eq];have:=c.toNat_lt;omega
 show some _=some t;congr 1;unfold bJ;rw[List.map_map,show ((fun n:Int=>UInt8.ofNat n.toNat) ∘ fun b:UInt8=>(b.toNat:Int))=id from funext fun c=>by
  show UInt8.ofNat (Int.toNat (c.toNat:Int))=c;rw[Int.toNat_natCast];exact UInt8.ofNat_toNat]
 exact List.map_id t
theorem Fi {a:Bs} (h0:a≠[]) (h:a.length<=1000000):Has (bR (bJ a)) (fun r=>r=a):=iB (tU h0 (by omega)) rfl
theorem JM {a:Bs} {b:Bool} (h0:a≠[]) (h:a.length<=1000000):Has (dC b (bJ a)) (fun r=>r=a):=iB (tU h0 (by omega)) rfl
theorem L8 {n:Int} (h0:0<=n) (h1:n<=9223372036854775807):Has (jr n) (fun t=>t.length<=21):=by
 have l1:=gX n;unfold jr;refine aa (km h0 h1) fun a ha=>?_;subst ha;refine aa (ct (by simp only[List.length_cons,List.length_nil]; omega)) fun b hb=>ae ?_;rw[hb,List.length_append];simp only[List.length_cons,List.length_nil]; omega
abbrev Grown (k:Nat) (p:List Int):Prop := ∃ a:Bs,p=bJ a/\a≠[]/\a.length<=k
theorem yx {k:Nat} (hk:k<=100000) {p:List Int} (h:Grown k p):Has ((bR p).bind fun s=>(cat? s ([93]:Bs)).bind fun t=>some t) (fun t=>t.length<=k+1):=by
 obtain⟨a,rfl,h1,h2⟩:=h;refine aa (Fi h1 (by omega)) fun s hs=>?_;subst hs;refine aa (ct (by simp only[List.length_cons,List.length_nil]; omega)) fun t ht=>ae ?_;rw[ht,List.length_append];simp only[List.length_cons,List.length_nil]; omega
theorem grown {k:Nat} {a s:Bs} (h:a≠[]) (hl:a.length+s.length<=k):Grown k (bJ (a++s)):=⟨a++s,rfl,by simp [h],by rw[List.length_append]; exact hl⟩
theorem tq (l:List Bs) (hl:l.length<=12) (hs:∀ s∈l,s.length<=60):Has (iw l) (fun t=>t.length<=1100):=by
 have l1:=gX (l.length:Int);unfold iw;refine aa (Q:=fun t=>t.length<=1100) ?_ fun t ht=>ae ht;unfold cL;refine aa (km (by omega) (by omega)) fun a ha=>?_;subst ha;refine aa (ct (by simp only[List.length_cons,List.length_nil]; omega)) fun a ha=>aa (zP a (by rw[ha,List.length_append]; simp only[List.length_cons,List.length_nil]; omega)) fun w hw=>aa (Q:=Grown 1010) ?_ fun p hp=>?_
 ·rw[hw];refine has_fold l (fun i p=>Grown (21+82 * i) p) (by omega) ⟨a,rfl,by rw[ha]; simp,by rw[ha,List.length_append]; simp only[List.length_cons,List.length_nil]; omega⟩ (fun i hi p hp=>?_) fun p hp=>?_
  ·obtain⟨a,rfl,h1,h2⟩:=hp;show Has (cL.b1 l (i:Int) _) _;unfold cL.b1;refine ah (fun _=>?_) fun h2=>absurd (dx h2) (by omega);refine aa (bO (by omega) (by omega)) fun x hx=>?_;have h3:=hs x hx.1;have h4:=iN x;refine aa (fN x (by omega)) fun t ht=>?_;subst ht;refine aa (qg _ a (by omega)) fun r hr=>aa (bD (by omega) (by omega)) fun j hj=>ae ⟨by show j=_; omega,?_⟩;show Grown _ r.2;rw[hr];exact grown h1 (by omega)
  ·show Has (cL.b1 l (l.length:Int) _) _;unfold cL.b1;refine ah (fun h2=>absurd (eT h2) (by omega)) fun _=>ae ?_;obtain⟨a,h0,h1,h2⟩:=hp;exact⟨a,h0,h1,by omega⟩
 ·unfold cL.j1;exact (yx (by omega) hp).mono fun t ht=>by omega
theorem JN (l:List Int) (hl:l.length<=12) (hs:∀ n∈l,0<=n/\n<200):Has (kB l) (fun t=>t.length<=1100):=by
 have l1:=gX (l.length:Int);unfold kB;refine aa (Q:=fun t=>t.length<=1100) ?_ fun t ht=>ae ht;unfold dz;refine aa (km (by omega) (by omega)) fun a ha=>?_;subst ha;refine aa (ct (by simp only[List.length_cons,List.length_nil]; omega)) fun a ha=>aa (zP a (by rw[ha,List.length_append]; simp only[List.length_cons,List.length_nil]; omega)) fun w hw=>aa (Q:=Grown 1010) ?_ fun p hp=>?_
 ·rw[hw];refine has_fold l (fun i p=>Grown (21+82 * i) p) (by omega) ⟨a,rfl,by rw[ha]; simp,by rw[ha,List.length_append]; simp only[List.length_cons,List.length_nil]; omega⟩ (fun i hi p hp=>?_) fun p hp=>?_
  ·obtain⟨a,rfl,h1,h2⟩:=hp;show Has (dz.b1 l (i:Int) _) _;unfold dz.b1;refine ah (fun _=>?_) fun h2=>absurd (dx h2) (by omega);refine aa (bO (by omega) (by omega)) fun x hx=>?_;have h3:=hs x hx.1;refine aa (L8 h3.1 (by omega)) fun t ht=>?_;refine aa (qg _ a (by omega)) fun r hr=>aa (bD (by omega) (by omega)) fun j hj=>ae ⟨by show j=_; omega,?_⟩;show Grown _ r.2;rw[hr];exact grown h1 (by omega)
  ·show Has (dz.b1 l (l.length:Int) _) _;unfold dz.b1;refine ah (fun h2=>absurd (eT h2) (by omega)) fun _=>ae ?_;obtain⟨a,h0,h1,h2⟩:=hp;exact⟨a,h0,h1,by omega⟩
 ·unfold dz.j1;exact (yx (by omega) hp).mono fun t ht=>by omega
theorem kU {v:cZ} (h:small v):Has (ed v) (fun t=>t.length<=63):=by
 refine (DP v ⟨by omega,by omega,by omega⟩).mono fun t ht=>?_;have l1:=gC v.1;have l2:=gC v.2.1;have l3:=gC v.2.2;rw[ht,List.length_append,List.length_append]; omega
theorem wN (l:List bB) (hl:l.length<=3) (hs:∀ r∈l,small r.1/\small r.2):Has (eQ l) (fun t=>t.length<=500):=by
 unfold eQ;refine aa (gx _ (by omega)) fun a ha=>?_;have l1:=gC (l.length:Int);refine fK (fun x=>∃ i:Nat,x.2=(i:Int)/\i<=l.length/\x.1.length<=21+126 * i) (fun x=>l.length-x.2.toNat) ⟨0,rfl,Nat.zero_le _,by show a.length<=_; rw[ha]; omega⟩ (by show l.length-_<=_; omega) (fun x hx _=>?_);obtain⟨s,v⟩:=x;obtain⟨i,x1,x2,x3⟩:=hx;simp only at x1 x3;subst x1;show Has (eQ.b1 l s (i:Int)) _;unfold eQ.b1;refine ah (fun h2=>?_) fun _=>ae (by omega);have h2:i<l.length:=by have:=eT h2; omega
 refine aa (bO (by omega) (by omega)) fun r hr=>aa (kU (hs r hr.1).1) fun b hb=>aa (kU (hs r hr.1).2) fun c hc=>aa (ct (by omega)) fun d hd=>?_;subst hd;refine aa (ct (by rw[List.length_append]; omega)) fun e he=>aa (bD (by omega) (by omega)) fun j hj=>ae ?_;subst he hj;refine⟨⟨i+1,rfl,h2,?_⟩,by show l.length-((i:Int)+1).toNat<l.length-((i:Int)).toNat; omega⟩;show (s++(b++c)).length<=_;rw[List.length_append,List.length_append]; omega
theorem L9 (r:ff) (hf:LY r) (h:LZ r):Has (bI r) (fun t=>t.length<=20000):=by
 obtain⟨f1,f2,f3,f4,f5,f6,f7,f8⟩:=hf;obtain⟨g1,g2,g3,g4,g5,g6⟩:=h;have t1:=iN r.1;have t2:=iN r.2.2.1;have t3:=iN r.2.2.2.2.2.2;have t4:=gC (r.2.2.2.1.length:Int);have t5:=gC (r.2.2.2.2.1.length:Int);unfold bI;refine aa (fN _ (by omega)) fun a ha=>aa (kU g2) fun b hb=>aa (ct (by rw[ha]; omega)) fun c hc=>aa (fN _ (by omega)) fun d hd=>aa (ct (by rw[hc,hd,ha,List.length_append]; omega)) fun e he=>aa (gx _ (by omega)) fun k hk=>aa (ct (by rw[he,hk,hc,hd,ha,List.length_append,List.length_append]; omega)) fun m hm=>?_;have hml:m.length<=500:=by rw[hm,he,hk,hc,hd,ha,List.length_append,List.length_append,List.length_append]; omega
 have hmn:m≠[]:=by
  rw[hm,he,hc,ha];unfold np;simp
 refine aa (zP m (by omega)) fun w hw=>aa (Q:=Grown 7000) ?_ fun p hp=>?_
 ·rw[hw];refine has_fold r.2.2.2.1 (fun i p=>Grown (500+2000 * i) p) (by omega) ⟨m,rfl,hmn,by omega⟩ (fun i hi p hp=>?_) fun p hp=>?_
  ·obtain⟨a,rfl,h1,h2⟩:=hp;show Has (bI.b1 r (i:Int) _) _;unfold bI.b1;refine ah (fun _=>?_) fun h2=>absurd (dx h2) (by omega);refine aa (bO (by omega) (by omega)) fun x hx=>?_;obtain⟨n1,n2,n3⟩:=f2 x hx.1;obtain⟨m1,m2,m3,m4⟩:=g3 x hx.1;have m3:x.2.2.2.1.length<=20:=by
    rcases m3 with h | h
    ·rw[h]; simp
    ·exact g4 _ h
   have u1:=iN x.1;have u2:=gC x.2.2.1;have u3:=iN x.2.2.2.1;refine aa (fN _ (by omega)) fun a1 ha1=>aa (gx _ (by omega)) fun a2 ha2=>?_;subst ha1 ha2;refine aa (ct (by omega)) fun a3 ha3=>aa (fN _ (by omega)) fun a4 ha4=>?_;subst ha4;have l3:a3.length<=103:=by rw[ha3,List.length_append]; omega
   refine aa (ct (by omega)) fun a5 ha5=>aa (wN _ (by omega) m2) fun a6 ha6=>?_;have l5:a5.length<=150:=by rw[ha5,List.length_append]; omega
   refine aa (ct (by omega)) fun a7 ha7=>aa (tq _ (by omega) (fun s hs=>by have:=m4 s hs; omega)) fun a8 ha8=>?_;have l7:a7.length<=650:=by rw[ha7,List.length_append]; omega
   refine aa (ct (by omega)) fun a9 ha9=>?_;have l9:a9.length<=1750:=by rw[ha9,List.length_append]; omega
   refine aa (qg _ a (by omega)) fun r hr=>aa (bD (by omega) (by omega)) fun j hj=>ae ⟨by show j=_; omega,?_⟩;show Grown _ r.2;rw[hr];exact grown h1 (by omega)
  ·show Has (bI.b1 r (r.2.2.2.1.length:Int) _) _;unfold bI.b1;refine ah (fun h2=>absurd (eT h2) (by omega)) fun _=>ae ?_;obtain⟨a,h0,h1,h2⟩:=hp;exact⟨a,h0,h1,by omega⟩
 ·obtain⟨a,rfl,h1,h2⟩:=hp;unfold bI.j2;refine aa (gx _ (by omega)) fun k hk=>?_;subst hk;refine aa (qg _ a (by omega)) fun w hw=>aa (Q:=Grown 13000) ?_ fun p hp=>?_
  ·rw[hw];refine has_fold r.2.2.2.2.1 (fun i p=>Grown (7100+1500 * i) p) (by omega) (grown h1 (by omega)) (fun i hi p hp=>?_) fun p hp=>?_
   ·obtain⟨a,rfl,h1,h2⟩:=hp;show Has (bI.b2 r (i:Int) _) _;unfold bI.b2;refine ah (fun _=>?_) fun h2=>absurd (dx h2) (by omega);refine aa (bO (by omega) (by omega)) fun x hx=>?_;have n1:=f4 x hx.1;have n2:=g5 x hx.1;have n3:x.1.length<=20:=g4 _ (List.mem_map.2 ⟨x,hx.1,rfl⟩);have u1:=iN x.1;refine aa (fN _ (by omega)) fun a1 ha1=>aa (tq _ (by omega) (fun s hs=>by have:=n2 s hs; omega)) fun a2 ha2=>?_;subst ha1;refine aa (ct (by omega)) fun a3 ha3=>?_;have l3:a3.length<=1200:=by rw[ha3,List.length_append]; omega
    refine aa (qg _ a (by omega)) fun r hr=>aa (bD (by omega) (by omega)) fun j hj=>ae ⟨by show j=_; omega,?_⟩;show Grown _ r.2;rw[hr];exact grown h1 (by omega)
   ·show Has (bI.b2 r (r.2.2.2.2.1.length:Int) _) _;unfold bI.b2;refine ah (fun h2=>absurd (eT h2) (by omega)) fun _=>ae ?_;obtain⟨a,h0,h1,h2⟩:=hp;exact⟨a,h0,h1,by omega⟩
  ·obtain⟨a,rfl,h1,h2⟩:=hp;unfold bI.j1;refine aa (tq _ (by omega) (fun s hs=>by have:=g6 s hs; omega)) fun a1 ha1=>aa (fN _ (by omega)) fun a2 ha2=>?_;subst ha2;refine aa (ct (by omega)) fun a3 ha3=>?_;have l3:a3.length<=1200:=by rw[ha3,List.length_append]; omega
   refine aa (qg _ a (by omega)) fun w hw=>?_;rw[hw];refine aa (Fi (by simp [h1]) (by rw[List.length_append]; omega)) fun s hs=>ae ?_;rw[hs,List.length_append]; omega
end Go.Proofs.YtkpefpjpadahiaaGreatDoor
namespace Go.Proofs.YtkpefpjpadahiaaGreatDoor
open Go.Lad
def gy:List Bs->Nat
 | []=>0
 | x::r=>x.length+gy r
theorem B3 (l m:List Bs):gy (l++m)=gy l+gy m:=by
 induction l with
 | nil=>rw[List.nil_append,gy,Nat.zero_add]
 | cons x r ih=>rw[List.cons_append,gy,gy,ih,Nat.add_assoc]
theorem GO {l:List Bs} {k:Nat} (hk:k<l.length):gy (l.take (k+1))=gy (l.take k)+l[k].length:=by
 rw[List.take_succ_eq_append_getElem hk,B3,gy,gy,Nat.add_zero]
theorem si (l:List Bs) (k:Nat):gy (l.take k)<=gy l:=by
 have:=B3 (l.take k) (l.drop k);rw[List.take_append_drop] at this;omega
abbrev Out (a:Bs) (lo hi:Nat) (p:List Int):Prop := ∃ t:Bs,p=bJ t/\a.length+lo<=t.length/\t.length<=a.length+hi
theorem mj (l:List Bs) (b:Bool) (a:Bs) (hl:l.length<=10) (ht:gy l<=1000) (ha:a.length<=200000):Has (av l b (bJ a)) (fun r=>Out a (gy l) (gy l+l.length) r.2):=by
 unfold av;refine has_fold l (fun i s=>Out a (gy (l.take i)) (gy (l.take i)+i) s.2) (by omega) ⟨a,rfl,by rw[List.take_zero,gy]; omega,by omega⟩ (fun i hi s hs=>?_) fun s hs=>?_
 ·obtain⟨w,p⟩:=s;obtain⟨t,e,t1,t2⟩:=hs;simp only at e;subst e;have t3:=si l i;have t4:=GO hi;have t5:=si l (i+1);show Has (av.b1 l (i:Int) w (bJ t)) _;unfold av.b1;refine ah (fun _=>?_) fun h2=>absurd (dx h2) (by omega);refine aa (bO (by omega) (by omega)) fun x hx=>?_;have hx:=JL hi hx;subst hx;refine aa (Q:=fun r:Bool×List Int=>Out t 0 1 r.2) ?_ fun r hr=>?_
  ·refine ah (fun _=>aa (L7 t w (by omega)) fun r hr=>ae ⟨t++[32],hr,by simp,by simp⟩) fun _=>ae ⟨t,rfl,by omega,by omega⟩
  ·obtain⟨r1,r2⟩:=r;obtain⟨u,e,u1,u2⟩:=hr;simp only at e;subst e;unfold av.j1;refine aa (L6 _ u r1 (by omega)) fun q hq=>aa (bD (by omega) (by omega)) fun j hj=>ae ⟨by show j=_; omega,?_⟩;refine⟨u++l[i],hq,?_,?_⟩
   ·rw[List.length_append]; omega
   ·rw[List.length_append]; omega
 ·show Has (av.b1 l (l.length:Int) s.1 s.2) _;unfold av.b1;refine ah (fun h2=>absurd (eT h2) (by omega)) fun _=>ae ?_;rw[List.take_length] at hs;exact hs
abbrev GW:=Int->Int->Bs->Bs->List Bs->List fq->Int->Bool->List Int->Option (Bool×List Int)
abbrev WOK (Gr:GW) (x:ck):Prop := ∀ form b (a:Bs),a.length+1000 * x.nd<=100000->Has (Gr x.op x.n x.s x.m x.names (unE x.args) form b (bJ a)) (fun r=>Out a 1 (1000 * x.nd) r.2)
theorem On (e:ck):1<=e.nd:=by rw[ck.se]; omega
theorem iW (l:List ck) (k:Nat):ck.nds (l.take k)<=ck.nds l:=by
 have:=ck.Fa (l.take k) (l.drop k);rw[List.take_append_drop] at this;omega
theorem uG {Gr:GW} {l:List ck} (hG:∀ x∈l,WOK Gr x) {k:Nat} (hk:k<l.length) {g:fq} (hg:g=DK l[k]) (form:Int) (b:Bool) (a:Bs) (h:a.length+1000 * l[k].nd<=100000) :
  Has (Gr g.1 g.2.1 g.2.2.1 g.2.2.2.1 g.2.2.2.2.1 (g.2.2.2.2.2.map (Uun 1)) form b (bJ a)) (fun r=>Out a 1 (1000 * l[k].nd) r.2):=by
 subst hg;exact hG _ (List.getElem_mem hk) form b a h
theorem sj {l:List ck} {k:Nat} (hk:k<l.length):Has (idx (unE l) (k:Int)) (fun g=>g=DK l[k]):=iB (uD hk) rfl
theorem JO {Gr:GW} {l:List ck} (hG:∀ x∈l,WOK Gr x) (hl:l.length<=1000) (b:Bool) (a:Bs) (h:a.length+1000 * ck.nds l+2 * l.length<=100000):Has (bZ Gr (unE l) b (bJ a)) (fun r=>Out a 0 (1000 * ck.nds l+2 * l.length) r.2):=by
 unfold bZ;refine has_fold (unE l) (fun i s=>Out a 0 (1000 * ck.nds (l.take i)+2 * i) s.2) (by rw[jX]; exact hl) ⟨a,rfl,by omega,by omega⟩ (fun i hi s hs=>?_) fun s hs=>?_
 ·rw[jX] at hi;obtain⟨w,p⟩:=s;obtain⟨t,e,t1,t2⟩:=hs;simp only at e;subst e;have t3:=iW l i;have t4:=ck.mR hi;have t5:=iW l (i+1);show Has (bZ.b1 Gr (unE l) (i:Int) w (bJ t)) _;unfold bZ.b1;rw[jX];refine ah (fun _=>?_) fun h2=>absurd (dx h2) (by omega);refine aa (sj hi) fun g hg=>aa (Q:=fun r:Bool×List Int=>Out t 0 2 r.2) ?_ fun r hr=>?_
  ·exact ah (fun _=>aa (mj _ _ t (by decide) (by decide) (by omega)) fun r hr=>ae (by obtain⟨u,e,u1,u2⟩:=hr; exact⟨u,e,by omega,u2⟩)) fun _=>ae ⟨t,rfl,by omega,by omega⟩
  ·obtain⟨r1,r2⟩:=r;obtain⟨u,e,u1,u2⟩:=hr;simp only at e;subst e;unfold bZ.j1;refine aa (uG hG hi hg 0 r1 u (by omega)) fun q hq=>aa (bD (by omega) (by omega)) fun j hj=>ae ⟨by show j=_; omega,?_⟩;obtain⟨v,e,v1,v2⟩:=hq;exact⟨v,e,by omega,by omega⟩
 ·show Has (bZ.b1 Gr (unE l) ((unE l).length:Int) s.1 s.2) _;unfold bZ.b1;refine ah (fun h2=>absurd (eT h2) (by omega)) fun _=>ae ?_;rw[jX,List.take_length] at hs;exact hs
end Go.Proofs.YtkpefpjpadahiaaGreatDoor
namespace Go.Proofs.YtkpefpjpadahiaaGreatDoor
open Go.Lad
theorem Fj:∀ l:List ck,l.length<=ck.nds l
 | []=>by rw[ck.nds]; exact Nat.le_refl _
 | x::r=>by
  have h1:=Fj r;have h2:=On x;rw[ck.nds,List.length_cons]; omega
theorem wO (l:List Bs) (b:Bool) (a:Bs) {lo hi:Nat} (hl:l.length<=10) (ht:gy l<=1000) (ha:a.length<=200000) (h1:lo<=gy l) (h2:gy l+l.length<=hi):Has ((av l b (bJ a)).bind fun p=>some (p.1,p.2)) (fun r=>Out a lo hi r.2) :=
 aa (mj l b a hl ht ha) fun r hr=>ae (by obtain⟨t,e,t1,t2⟩:=hr; exact⟨t,e,by omega,by omega⟩)
def PW:Bs:=[102,105,108,101,115,32,110,101,116,32,99,108,111,99,107,32,115,101,99,114,101,116,115]
def xn:List Bs:=[[102,105,108,101,115],[110,101,116],[99,108,111,99,107],[115,101,99,114,101,116,115]]
theorem wP:strings_Fields PW=some xn:=by kernel_rfl
theorem Ma (s:Bs):Has (jN s) (fun _=>True):=by
 unfold jN;refine aa (iB (Q:=fun f=>f=xn) wP rfl) fun f hf=>?_;subst hf;refine aa (wL xn s (by decide)) fun i hi=>ah (fun _=>ae trivial) fun e=>?_;have e:=dx e;refine aa (Q:=fun _=>True) ?_ fun _ _=>ae trivial;unfold Ir;rw[iv,decide_eq_true e];exact ae trivial
theorem Mb (e2:Int) (b:Bool) (a:Bs) (ha:a.length<=100000):Has (bS (fun x=>al.b2 e2 xn x.1 x.2.1 x.2.2) (0,b,bJ a)) (fun r=>Out a 0 40 r.2):=by
 refine has_fold xn (fun i s=>Out a 0 (9 * i) s.2) (by decide) ⟨a,rfl,by omega,by omega⟩ (fun i hi s hs=>?_) fun s hs=>?_
 ·obtain⟨w,p⟩:=s;obtain⟨t,e,t1,t2⟩:=hs;simp only at e;subst e;have hi4:i<4:=hi;show Has (al.b2 e2 xn (i:Int) w (bJ t)) _;unfold al.b2;refine ah (fun _=>?_) fun h2=>absurd (dx h2) (by omega);refine aa (bO (by omega) (by omega)) fun x hx=>?_;have hxl:x.length<=7:=(show ∀ x∈xn,x.length<=7 by decide) x hx.1;have ht:gy [x]=x.length:=by rw[gy,gy,Nat.add_zero]
  refine aa (Ma x) fun _ _=>ah (fun _=>?_) fun _=>?_
  ·refine aa (mj [x] w t (by show 1<=10; decide) (by omega) (by omega)) fun r hr=>aa (bD (by omega) (by omega)) fun j hj=>ae ⟨by show j=_; omega,?_⟩;obtain⟨u,e,u1,u2⟩:=hr;rw[ht] at u2;replace u2:u.length<=t.length+(x.length+1):=u2;exact⟨u,e,by omega,by omega⟩
  ·exact aa (bD (by omega) (by omega)) fun j hj=>ae ⟨by show j=_; omega,⟨t,rfl,by omega,by omega⟩⟩
 ·show Has (al.b2 e2 xn (xn.length:Int) s.1 s.2) _;unfold al.b2;refine ah (fun h2=>absurd (eT h2) (by omega)) fun _=>ae ?_;obtain⟨t,e,t1,t2⟩:=hs;replace t2:t.length<=a.length+36:=t2;exact⟨t,e,by omega,by omega⟩
theorem JP {Gr:GW} {ns:List Bs} {l:List ck} (hG:∀ x∈l,WOK Gr x) (hn:ns.length<=12) (hl:ns.length=l.length) (hs:∀ s∈ns,s.length<=20) (b:Bool) (a:Bs) (h:a.length+1000 * ck.nds l+500<=100000) :
  Has (bS (fun x=>al.b1 Gr ns (unE l) x.1 x.2.1 x.2.2) (0,b,bJ a)) (fun r=>Out a 0 (1000 * ck.nds l+400) r.2):=by
 refine has_fold ns (fun i s=>Out a 0 (1000 * ck.nds (l.take i)+30 * i) s.2) (by omega) ⟨a,rfl,by omega,by omega⟩ (fun i hi s hs'=>?_) fun s hs'=>?_
 ·have hil:i<l.length:=by omega
  obtain⟨w,p⟩:=s;obtain⟨t,e,t1,t2⟩:=hs';simp only at e;subst e;have t3:=iW l i;have t4:=ck.mR hil;have t5:=iW l (i+1);show Has (al.b1 Gr ns (unE l) (i:Int) w (bJ t)) _;unfold al.b1;refine ah (fun _=>?_) fun h2=>absurd (dx h2) (by omega);refine aa (bO (by omega) (by omega)) fun x hx=>aa (Q:=fun r:Bool×List Int=>Out t 0 2 r.2) ?_ fun r hr=>?_
  ·exact ah (fun _=>wO _ _ t (by decide) (by decide) (by omega) (by decide) (by decide)) fun _=>ae ⟨t,rfl,by omega,by omega⟩
  ·obtain⟨r1,r2⟩:=r;obtain⟨u,e,u1,u2⟩:=hr;simp only at e;subst e;have hxl:=hs x hx.1;have ht:gy [x,[61]]=x.length+1:=by rw[gy,gy,gy]; rfl
   unfold al.j1;refine aa (mj [x,[61]] r1 u (by show 2<=10; decide) (by omega) (by omega)) fun q hq=>?_;obtain⟨q1,q2⟩:=q;obtain⟨v,e,v1,v2⟩:=hq;simp only at e;subst e;rw[ht] at v2;replace v2:v.length<=u.length+(x.length+1+2):=v2;refine aa (sj hil) fun g hg=>aa (uG hG hil hg 0 q1 v (by omega)) fun q hq=>aa (bD (by omega) (by omega)) fun j hj=>ae ⟨by show j=_; omega,?_⟩;obtain⟨y,e,y1,y2⟩:=hq;exact⟨y,e,by omega,by omega⟩
 ·show Has (al.b1 Gr ns (unE l) (ns.length:Int) s.1 s.2) _;unfold al.b1;refine ah (fun h2=>absurd (eT h2) (by omega)) fun _=>ae ?_;obtain⟨t,e,t1,t2⟩:=hs';rw[hl,List.take_length] at t2;exact⟨t,e,by omega,by omega⟩
set_option maxRecDepth 100000 in
theorem B4 {Gr:GW} {d q:Nat} {e:ck} (hG:∀ x∈e.args,WOK Gr x) (ho:okE (d+1) e) (hq:shE q e) (b:Bool) (a:Bs) (h:a.length+1000 * e.nd<=100010) :
  Has (al Gr e.op e.n e.s e.m e.names (unE e.args) b (bJ a)) (fun r=>Out a 1 (1000 * ck.nds e.args+700) r.2):=by
 obtain⟨o1,o12,o18,o11,o14,o13,⟨o10,o39,o0,o13n,o2⟩,oa⟩:=ho;have hn:=ck.se e;have hlen:=Fj e.args;obtain⟨s1,s2,s3⟩:e.names.length<=12/\e.s.length<=60/\e.m.length<=60:=by
  cases q with
  | zero=>exact hq.elim
  | succ q=>exact hq.1
 unfold al;refine aa (Q:=fun x:(Bool×List Int)⊕(Bool×List Int)=>match x with | .inl y=>y.2=bJ a | .inr r=>Out a 1 (1000 * ck.nds e.args+700) r.2) ?_ fun x hx=>?_
 ·refine ah (fun e1=>?_) fun _=>ae rfl;have e1:=dW e1;refine aa (mj [[123]] b a (by decide) (by decide) (by omega)) fun r hr=>?_;obtain⟨r1,r2⟩:=r;obtain⟨t,e',t1,t2⟩:=hr;simp only at e';subst e';replace t1:a.length+1<=t.length:=t1;replace t2:t.length<=a.length+2:=t2;refine aa (JP hG s1 (o13 e1) (o13n e1) r1 t (by omega)) fun r hr=>?_;obtain⟨r1,r2⟩:=r;obtain⟨u,e',u1,u2⟩:=hr;simp only at e';subst e';show Has (al.j2 r1 (bJ u)) _;unfold al.j2;refine aa (mj [[125]] r1 u (by decide) (by decide) (by omega)) fun r hr=>ae ?_;obtain⟨v,e',v1,v2⟩:=hr;replace v2:v.length<=u.length+2:=v2;exact⟨v,e',by omega,by omega⟩
 ·cases x with
  | inr r=>exact ae hx
  | inl y =>
   obtain⟨w,p⟩:=y;replace hx:p=bJ a:=hx;subst hx;show Has (al.j5 Gr e.op e.n e.s e.m (unE e.args) w (bJ a)) _;unfold al.j5;have ht:gy [e.m,[46]]=e.m.length+1:=by rw[gy,gy,gy]; rfl
   refine aa (Q:=fun r:Bool×List Int=>Out a 0 70 r.2) ?_ fun r hr=>?_
   ·exact ah (fun _=>wO _ _ a (by show 2<=10; decide) (by omega) (by omega) (by omega) (by rw[ht]; show _+2<=70; omega)) fun _=>ae ⟨a,rfl,by omega,by omega⟩
   obtain⟨r1,r2⟩:=r;obtain⟨t,e',t1,t2⟩:=hr;simp only at e';subst e';show Has (al.j4 Gr e.op e.n e.s (unE e.args) r1 (bJ t)) _;unfold al.j4;have ht2:gy [e.s]=e.s.length:=by rw[gy,gy,Nat.add_zero]
   refine aa (Q:=fun r:Bool×List Int=>Out t 0 70 r.2) ?_ fun r hr=>?_
   ·refine ah (fun _=>aa (iB (Q:=fun f=>f=xn) wP rfl) fun f hf=>?_) fun _=>wO _ _ t (by show 1<=10; decide) (by omega) (by omega) (by omega) (by rw[ht2]; show _+1<=70; omega);subst hf;refine (Mb _ _ t (by omega)).mono fun r hr=>?_;obtain⟨u,e',u1,u2⟩:=hr;exact⟨u,e',by omega,by omega⟩
   obtain⟨r1,r2⟩:=r;obtain⟨u,e',u1,u2⟩:=hr;simp only at e';subst e';show Has (al.j3 Gr (unE e.args) r1 (bJ u)) _;unfold al.j3;refine aa (mj [[40]] r1 u (by decide) (by decide) (by omega)) fun r hr=>?_;obtain⟨r1,r2⟩:=r;obtain⟨v,e',v1,v2⟩:=hr;simp only at e';subst e';replace v1:u.length+1<=v.length:=v1;replace v2:v.length<=u.length+2:=v2;refine aa (JO hG o1 r1 v (by omega)) fun r hr=>?_;obtain⟨r1,r2⟩:=r;obtain⟨z,e',z1,z2⟩:=hr;simp only at e';subst e';refine aa (mj [[41]] r1 z (by decide) (by decide) (by omega)) fun r hr=>ae ?_;obtain⟨y,e',y1,y2⟩:=hr;replace y2:y.length<=z.length+2:=y2;exact⟨y,e',by omega,by omega⟩
end Go.Proofs.YtkpefpjpadahiaaGreatDoor
namespace Go.Proofs.YtkpefpjpadahiaaGreatDoor
open Go.Lad
def opsL:List pX:=[([111,114],9,1),([97,110,100],8,2),([61,61],7,4),([60],6,4),([43],3,5),([45],4,5),([42],5,6)]
theorem JQ (e1 e2:Int) (e3 e4:Bs) (e5:List Bs) (e6:List fq):Has (cY e1 e2 e3 e4 e5 e6) (fun r=>0<=r.1/\r.1<=10/\r.2.length<=3/\(r.2≠[]->3<=e1/\e1<=9)):=by
 unfold cY;refine aa (Q:=fun x:Unit⊕(Int×Bs)=>match x with | .inl _=>True | .inr r=>0<=r.1/\r.1<=10/\r.2.length<=3/\(r.2≠[]->3<=e1/\e1<=9)) ?_ fun x hx=>?_
 ·refine aa (ae (Q:=fun o=>o=opsL) rfl) fun o ho=>?_;subst ho;refine kk opsL (by decide) (fun i x hx=>?_) ?_
  ·obtain⟨hi,_⟩:=List.getElem?_eq_some_iff.1 hx;have hi7:i<7:=hi;unfold cY.b1;refine ah (fun _=>?_) fun h2=>absurd (dx h2) (by omega);refine aa (bO (by omega) (by omega)) fun o ho=>ah (fun e=>ae ?_) fun _=>aa (bD (by omega) (by omega)) fun j hj=>ae ?_
   ·have e:=dW e;obtain⟨q1,q2,q3,q4,q5⟩:=(show ∀ o∈opsL,3<=o.2.1/\o.2.1<=9/\0<=o.2.2/\o.2.2<=10/\o.1.length<=3 by decide) o ho.1;exact⟨q3,q4,q5,fun _=>by omega⟩
   ·show j=_;omega
  ·unfold cY.b1;exact ah (fun h2=>absurd (eT h2) (by omega)) fun _=>ae trivial
 ·cases x with
  | inr r=>exact ae hx
  | inl u =>
   show Has (cY.j2 e1) _;unfold cY.j2;refine aa (Q:=fun _:Bool=>True) ?_ fun x _=>?_
   ·exact ah (fun _=>ae trivial) fun _=>ah (fun _=>ae trivial) fun _=>ae trivial
   ·unfold cY.j1;have ne:∀ {p:Prop},([]:Bs)≠[]->p:=fun h=>absurd rfl h;exact ah (fun _=>ae ⟨by decide,by decide,by decide,ne⟩) fun _=>ah (fun _=>ae ⟨by decide,by decide,by decide,ne⟩) fun _=>ah (fun _=>ae ⟨by decide,by decide,by decide,ne⟩) fun _=>ae ⟨by decide,by decide,by decide,ne⟩
theorem oL {Gr:GW} {l:List ck} (hG:∀ x∈l,WOK Gr x) {k:Nat} (hk:k<l.length) (form:Int) (b:Bool) (a:Bs) (h:a.length+1000 * l[k].nd<=100000) {β:Type} {R:β->Prop} {f:Bool×List Int->Option β}
  (hf:∀ b (t:Bs),a.length+1<=t.length->t.length<=a.length+1000 * l[k].nd->Has (f (b,bJ t)) R) :
  Has ((idx (unE l) (k:Int)).bind fun g=>(Gr g.1 g.2.1 g.2.2.1 g.2.2.2.1 g.2.2.2.2.1 (g.2.2.2.2.2.map (Uun 1)) form b (bJ a)).bind f) R:=by
 refine aa (sj hk) fun g hg=>aa (uG hG hk hg form b a h) fun q hq=>?_;obtain⟨q1,q2⟩:=q;obtain⟨t,e,t1,t2⟩:=hq;simp only at e;subst e;exact hf q1 t t1 t2
theorem iO (l:List Bs) (b:Bool) (a:Bs) {lo hi:Nat} (hl:l.length<=10) (ht:gy l<=1000) (ha:a.length<=200000) (h1:lo<=gy l) (h2:gy l+l.length<=hi) {β:Type} {R:β->Prop} {f:Bool×List Int->Option β}
  (hf:∀ b (t:Bs),a.length+lo<=t.length->t.length<=a.length+hi->Has (f (b,bJ t)) R):Has ((av l b (bJ a)).bind f) R:=by
 refine aa (mj l b a hl ht ha) fun q hq=>?_;obtain⟨q1,q2⟩:=q;obtain⟨t,e,t1,t2⟩:=hq;simp only at e;subst e;exact hf q1 t (by omega) (by omega)
theorem lD {a:Bs} {lo hi:Nat} {b:Bool} {t:Bs} (h1:a.length+lo<=t.length) (h2:t.length<=a.length+hi):Has (some (b,bJ t)) (fun r=>Out a lo hi r.2):=ae ⟨t,rfl,h1,h2⟩
def ifW:List Bs:=[[105,102],[116,104,101,110],[101,108,115,101]]
theorem GP (x:Bs):gy [x]=x.length:=by rw[gy,gy,Nat.add_zero]
theorem Mc (x y:Bs):gy [x,y]=x.length+y.length:=by rw[gy,GP]
theorem PX (x y z:Bs):gy [x,y,z]=x.length+(y.length+z.length):=by rw[gy,Mc]
theorem Md {Gr:GW} {l:List ck} (hG:∀ x∈l,WOK Gr x) (hl:l.length=3) (b:Bool) (a:Bs) (h:a.length+1000 * ck.nds l+500<=100000) :
  Has (bS (fun x=>bA.b1 Gr (unE l) x.1 x.2.1 x.2.2) (0,b,bJ a)) (fun r=>Out a 1 (1000 * ck.nds l+400) r.2):=by
 refine has_fold ifW (fun i s=>Out a i (1000 * ck.nds (l.take i)+30 * i) s.2) (by decide) ⟨a,rfl,by omega,by omega⟩ (fun i hi s hs'=>?_) fun s hs'=>?_
 ·have hi3:i<3:=hi;have hil:i<l.length:=by omega
  obtain⟨w,p⟩:=s;obtain⟨t,e,t1,t2⟩:=hs';simp only at e;subst e;have t3:=iW l i;have t4:=ck.mR hil;have t5:=iW l (i+1);show Has (bA.b1 Gr (unE l) (i:Int) w (bJ t)) _;unfold bA.b1;refine ah (fun _=>?_) fun h2=>absurd (dx h2) (by show ¬ ((3:Nat):Int)<=_; omega);refine aa (bO (l:=ifW) (by omega) (by omega)) fun x hx=>?_;have hxl:x.length<=5:=(show ∀ x∈ifW,x.length<=5 by decide) x hx.1;have ht:=GP x;refine iO [x] w t (lo:=0) (hi:=6) (by show 1<=10; decide) (by omega) (by omega) (by omega) (by show _+1<=6; omega) fun b u u1 u2=>?_;refine oL hG hil 0 b u (by omega) fun b v v1 v2=>aa (bD (by omega) (by omega)) fun j hj=>ae ⟨by show j=_; omega,?_⟩;exact⟨v,rfl,by omega,by omega⟩
 ·show Has (bA.b1 Gr (unE l) (ifW.length:Int) s.1 s.2) _;unfold bA.b1;refine ah (fun h2=>absurd (eT h2) (by show ¬ (_:Int)<((3:Nat):Int); show ¬ ((3:Nat):Int)<_; omega)) fun _=>ae ?_;obtain⟨t,e,t1,t2⟩:=hs';have e3:ifW.length=l.length:=hl.symm;rw[e3,List.take_length] at t2;exact⟨t,e,by omega,by omega⟩
set_option maxRecDepth 100000 in
theorem yy {Gr:GW} {d q:Nat} {e:ck} (hG:∀ x∈e.args,WOK Gr x) (ho:okE (d+1) e) (hq:shE q e) (own:Int) (sign:Bs) (h0:0<=own/\own<=10) (hs:sign.length<=3) (h2:sign≠[]->3<=e.op/\e.op<=9) (b:Bool) (a:Bs) (h:a.length+1000 * e.nd<=100010) :
  Has (bA Gr e.op e.n e.s e.m e.names (unE e.args) own sign b (bJ a)) (fun r=>Out a 1 (1000 * ck.nds e.args+700) r.2):=by
 have hgr:=B4 hG ho hq b a h;obtain⟨o1,o12,o18,o11,o14,o13,⟨o10,o39,o0,o13n,o2⟩,oa⟩:=ho;have hn:=ck.se e;obtain⟨s1,s2,s3⟩:e.names.length<=12/\e.s.length<=60/\e.m.length<=60:=by
  cases q with
  | zero=>exact hq.elim
  | succ q=>exact hq.1
 have n1:∀ h:0<e.args.length,e.args[0].nd<=ck.nds e.args:=fun h=>by
  have h3:ck.nds (e.args.take 1)=0+e.args[0].nd:=(ck.mR (k:=0) h).trans (by rw[List.take_zero,ck.nds]);have h4:=iW e.args 1;omega
 have n2:∀ h:1<e.args.length,(e.args[0]'(by omega)).nd+e.args[1].nd<=ck.nds e.args:=fun h=>by
  have h3:ck.nds (e.args.take 1)=0+(e.args[0]'(by omega)).nd:=(ck.mR (k:=0) (by omega)).trans (by rw[List.take_zero,ck.nds]);have h5:ck.nds (e.args.take 2)=ck.nds (e.args.take 1)+e.args[1].nd:=ck.mR (k:=1) h;have h4:=iW e.args 2;omega
 unfold bA;refine ah (fun e1=>?_) fun _=>?_
 ·have e1:sign≠[]:=by simpa using e1
  have hlen:=o39 (h2 e1);have m2:=n2 (by omega);refine aa (Q:=fun _:Int=>True) ?_ fun left _=>?_
  ·exact ah (fun _=>aa (bD (by omega) (by omega)) fun _ _=>ae trivial) fun _=>ae trivial
  ·unfold bA.j1;have ht:=GP sign;refine oL hG (k:=0) (by omega) left b a (by omega) fun b t t1 t2=>iO [sign] b t (lo:=0) (hi:=4) (by show 1<=10; decide) (by omega) (by omega) (by omega) (by show _+1<=4; omega) fun b u u1 u2=>?_;have hk:1<e.args.length:=by omega
   refine aa (sj hk) fun g hg=>aa (bD (by omega) (by omega)) fun j hj=>aa (uG hG hk hg j b u (by omega)) fun q hq=>?_;obtain⟨q1,q2⟩:=q;obtain⟨v,e',v1,v2⟩:=hq;simp only at e';subst e';exact lD (by omega) (by omega)
 refine ah (fun e1=>?_) fun _=>ah (fun e1=>?_) fun _=>ah (fun e1=>?_) fun _=>ah (fun e1=>?_) fun _=>ah (fun e1=>?_) fun _=>ah (fun e1=>?_) fun _=>ah (fun e1=>?_) fun _=>ah (fun e1=>?_) fun _=>ah (fun e1=>?_) fun _=>?_
 ·have o0:=o0 (dW e1);refine aa (km o0.1 o0.2) fun s hs=>?_;subst hs;have l1:=gX e.n;have l2:1<=(gW e.n).length:=List.length_pos_iff.2 (Fg (by omega));have ht:=GP (gW e.n);exact iO _ b a (lo:=1) (hi:=30) (by show 1<=10; decide) (by omega) (by omega) (by omega) (by show _+1<=30; omega) fun b t t1 t2=>lD (by omega) (by omega)
 ·refine aa (Q:=fun s:Bs=>1<=s.length/\s.length<=5) ?_ fun s hs=>?_
  ·refine aa (Q:=fun s:Bs=>1<=s.length/\s.length<=5) ?_ fun s hs=>ae hs;unfold internal_strconv_FormatBool;exact ah (fun _=>ae ⟨by decide,by decide⟩) fun _=>ae ⟨by decide,by decide⟩
  ·have ht:=GP s;exact iO _ b a (lo:=1) (hi:=30) (by show 1<=10; decide) (by omega) (by omega) (by omega) (by show _+1<=30; omega) fun b t t1 t2=>lD (by omega) (by omega)
 ·have l2:1<=e.s.length:=List.length_pos_iff.2 (o2 (dW e1));have ht:=GP e.s;exact iO _ b a (lo:=1) (hi:=70) (by show 1<=10; decide) (by omega) (by omega) (by omega) (by show _+1<=70; omega) fun b t t1 t2=>lD (by omega) (by omega)
 ·have ht:gy [[103,101,116],e.s]=3+e.s.length:=Mc _ _;exact iO _ b a (lo:=1) (hi:=70) (by show 2<=10; decide) (by omega) (by omega) (by omega) (by show _+2<=70; omega) fun b t t1 t2=>lD (by omega) (by omega)
 ·have ht:gy [[115,101,116],e.s]=3+e.s.length:=Mc _ _;have hk:=o18 (dW e1);have m1:=n1 hk;exact iO _ b a (lo:=1) (hi:=70) (by show 2<=10; decide) (by omega) (by omega) (by omega) (by show _+2<=70; omega) fun b t t1 t2=>oL hG (k:=0) hk 0 b t (by omega) fun b u u1 u2=>lD (by omega) (by omega)
 ·have hk:=o10 (dW e1);have m1:=n1 hk;exact iO _ b a (lo:=1) (hi:=4) (by decide) (by decide) (by omega) (by decide) (by decide) fun b t t1 t2=>oL hG (k:=0) hk 3 b t (by omega) fun b u u1 u2=>lD (by omega) (by omega)
 ·have hk:=o14 (dW e1);have m1:=n1 hk;have ht:gy [[46],e.s]=1+e.s.length:=Mc _ _;exact oL hG (k:=0) hk 7 b a (by omega) fun b t t1 t2=>iO _ b t (lo:=1) (hi:=70) (by show 2<=10; decide) (by omega) (by omega) (by omega) (by show _+2<=70; omega) fun b u u1 u2=>lD (by omega) (by omega)
 ·have hk:1<e.args.length:=by have:=o12 (dW e1); omega
  have m2:=n2 hk;have ht:gy [[108,101,116],e.s,[61]]=3+(e.s.length+1):=PX _ _ _;exact iO _ b a (lo:=1) (hi:=70) (by show 3<=10; decide) (by omega) (by omega) (by omega) (by show _+3<=70; omega) fun b t t1 t2=>oL hG (k:=0) (by omega) 0 b t (by omega) fun b u u1 u2=>iO [[105,110]] b u (lo:=0) (hi:=3) (by decide) (by decide) (by omega) (by decide) (by decide) fun b v v1 v2=>oL hG (k:=1) hk 0 b v (by omega) fun b y y1 y2=>lD (by omega) (by omega)
 ·refine (Md hG (o11 (dW e1)) b a (by omega)).mono fun r hr=>?_;obtain⟨t,e',t1,t2⟩:=hr;exact⟨t,e',by omega,by omega⟩
 ·exact aa hgr fun r hr=>ae hr
set_option maxRecDepth 100000 in
theorem Fk:∀ (d n q:Nat) (e:ck),d<n->okE d e->shE q e->WOK (aX.rec n) e
 | 0,_,_,_,_,h,_=>h.elim
 | d+1,0,_,_,h,_,_=>absurd h (by omega)
 | d+1,n+1,0,_,_,_,h=>h.elim
 | d+1,n+1,q+1,e,hd,ho,hs=>fun form b a h=>by
  have hG:∀ x∈e.args,WOK (aX.rec n) x:=fun x hx=>Fk d n q x (by omega) (by obtain⟨_,_,_,_,_,_,_,oa⟩:=ho; exact oa x hx) (hs.2.2 x hx);have hn:=ck.se e;show Has (aX.body (aX.rec n) e.op e.n e.s e.m e.names (unE e.args) form b (bJ a)) _;unfold aX.body;refine aa (JQ _ _ _ _ _ _) fun f hf=>?_;obtain⟨f1,f2,f3,f4⟩:=hf;refine ah (fun _=>?_) fun _=>?_
  ·refine iO [[40]] b a (lo:=0) (hi:=2) (by decide) (by decide) (by omega) (by decide) (by decide) fun b t t1 t2=>?_;refine aa (yy hG ho hs f.1 f.2 ⟨f1,f2⟩ f3 f4 b t (by omega)) fun r hr=>?_;obtain⟨r1,r2⟩:=r;obtain⟨u,e',u1,u2⟩:=hr;simp only at e';subst e';exact iO [[41]] r1 u (lo:=0) (hi:=2) (by decide) (by decide) (by omega) (by decide) (by decide) fun b v v1 v2=>lD (by omega) (by omega)
  ·refine aa (yy hG ho hs f.1 f.2 ⟨f1,f2⟩ f3 f4 b a (by omega)) fun r hr=>?_;obtain⟨t,e',t1,t2⟩:=hr;exact ae ⟨t,e',by omega,by omega⟩
theorem GQ {q:Nat} {e:ck} (hs:shE q e) (hr:dc e.op e.n e.s e.m e.names (unE e.args)=some true) (hn:e.nd<=20):Has (dV e.op e.n e.s e.m e.names (unE e.args)) (fun r=>r.1.length<=8000):=by
 have ho:okE 12 e:=(zK hs).2 (by have:=(zK hs).1; rw[hr] at this; exact (Option.some.inj this).symm);unfold dV;rw[hr];show Has (dV.j1 e.op e.n e.s e.m e.names (unE e.args) false []) _;unfold dV.j1;refine aa (Fk 12 jH.n q e (tS (by omega)) ho hs 0 false [] (by show 0+1000 * e.nd<=100000; omega)) fun r hr=>?_;obtain⟨r1,r2⟩:=r;obtain⟨t,e',t1,t2⟩:=hr;simp only at e';subst e';have t1:1<=t.length:=by simpa using t1
 have t2:t.length<=1000 * e.nd:=by simpa using t2
 refine aa (Q:=fun r:Bs×Int=>r.1.length<=8000) ?_ fun r hr=>ae hr;unfold ft;refine aa (ae (Q:=fun l:Int=>l=(t.length:Int)) (by show ((bJ t).length:Int)=_; rw[mJ])) fun l hl=>ah (fun _=>ae (by decide)) fun e1=>?_;have e1:=dx e1;exact aa (JM (List.length_pos_iff.1 t1) (by omega)) fun s hs=>ae (by show s.length<=8000; rw[hs]; omega)
end Go.Proofs.YtkpefpjpadahiaaGreatDoor
namespace Go.Proofs.YtkpefpjpadahiaaGreatDoor
open Go.Lad
def JR (f:bX) (r:Bs×Int):Prop:=(r.2=0/\bV f=some true/\(∃ t,r.1=np (dN f)++t)/\r.1.length<=20000)\/(r.2≠0/\r.1=[])
theorem pF {s p:Bs} {k:Nat} (hs:s.length<=1000) (hk:k<=100000) (hp:p.length<=k) {x:Bs} (hx:∃ t,s=x++t) :
  Has ((cat? s p).bind fun r=>(some (.inl r):Option (Bs⊕(Bs×Int)))) (fun y=>match y with | .inl s=>(∃ t,s=x++t) | .inr r=>r=([],6)):=by
 refine aa (ct (by omega)) fun r hr=>ae ?_;obtain⟨t,rfl⟩:=hx;exact⟨t++p,by rw[hr,List.append_assoc]⟩
theorem B5 (f:bX) (h:mS f):Has (dj f) (JR f):=by
 obtain⟨rb,hrb,hsays⟩:=qf f h;unfold dj;rw[idF,hrb];show Has (bif !rb then _ else _) _;cases rb with
 | false=>exact ae (.inr ⟨by decide,rfl⟩)
 | true =>
 obtain⟨hk,ht0,ht1⟩:=hsays rfl;have kl:=pE f h;have n1:=h.name;show Has ((gh f).bind _) _;refine aa (uE f h hrb) fun k hk'=>?_;subst hk';have u1:=iN (dN f);have u2:=gC f.1;have u3:=gC f.2.2.2.2.2.2.2.2.2;have u4:=iN f.2.1;have hkind:0<=f.1/\f.1<=7:=by
  rcases hk with h | h | h | h
  ·omega
  ·omega
  ·omega
  ·omega
 refine aa (fN _ (by omega)) fun a ha=>aa (gx _ (by omega)) fun b hb=>?_;subst ha hb;refine aa (ct (by omega)) fun c hc=>aa (gx _ (by omega)) fun d hd=>?_;subst hc hd;refine aa (ct (by rw[List.length_append]; omega)) fun s hs=>?_;have hsl:s.length<=300:=by rw[hs,List.length_append,List.length_append]; omega
 have hsx:∃ t,s=np (dN f)++t:=⟨nuB f.1++nuB f.2.2.2.2.2.2.2.2.2,by rw[hs,List.append_assoc]⟩;clear hs;refine aa (Q:=fun y:Bs⊕(Bs×Int)=>match y with | .inl s=>(∃ t,s=np (dN f)++t) | .inr r=>r=([],6)) ?_ fun y hy=>?_
 ·refine ah (fun e=>?_) fun e=>aa (Q:=fun b:Bool=>(b=true->f.1=1\/f.1=2)/\(b=false->f.1≠1/\f.1≠2)) ?_ fun x hx=>?_
  ·have e:=dW e;have hr:LZ f.2.2.2.1:=by
    rcases hk with h | h | h | h
    ·exact h.2
    ·omega
    ·omega
    ·omega
   exact aa (L9 _ h.rel hr) fun p hp=>pF (by omega) (by omega) hp hsx
  ·refine ah (fun e=>ae ⟨fun _=>.inl (dW e),fun e'=>by rw[e] at e'; cases e'⟩) fun e=>ae ⟨fun e'=>.inr (dW e'),fun e'=>⟨kD e,kD e'⟩⟩
  ·have e:=kD e;unfold dj.j1;refine ah (fun e1=>?_) fun e1=>ah (fun e2=>?_) fun e2=>ah (fun e3=>?_) fun e3=>?_
   ·have e1:=hx.1 e1;have hr:small f.2.2.1:=by
     rcases hk with h | h | h | h
     ·omega
     ·exact h.2.2.1
     ·omega
     ·omega
    refine aa (fN _ (by omega)) fun a ha=>aa (kU hr) fun b hb=>?_;subst ha;refine aa (ct (by omega)) fun c hc=>?_;exact pF (k:=200) (by omega) (by omega) (by rw[hc,List.length_append]; omega) hsx
   ·have e2:=dW e2;obtain⟨hr,hp⟩:small f.2.2.1/\(0<=f.2.2.2.2.2.2.2.2.1/\f.2.2.2.2.2.2.2.2.1<=1073741824):=by
     rcases hk with h | h | h | h
     ·omega
     ·exact⟨h.2.2.1,h.2.2.2 e2⟩
     ·omega
     ·omega
    have u5:=gC f.2.2.2.2.2.2.2.2.1;refine aa (fN _ (by omega)) fun a ha=>aa (kU hr) fun b hb=>?_;subst ha;refine aa (ct (by omega)) fun c hc=>aa (gx _ (by omega)) fun d hd=>?_;subst hd;have cl:c.length<=150:=by rw[hc,List.length_append]; omega
    refine aa (ct (by omega)) fun g hg=>?_;exact pF (k:=200) (by omega) (by omega) (by rw[hg,List.length_append]; omega) hsx
   ·have e3:=dW e3;obtain⟨r1,r2,r3,r4,r5⟩:Om f.2.2.2.2.1:=by
     rcases hk with h | h | h | h
     ·omega
     ·omega
     ·exact h.2
     ·omega
    have u5:=gC f.2.2.2.2.1.1;have u6:=iN f.2.2.2.2.1.2.1;have u7:=iN f.2.2.2.2.1.2.2.2.1;have an:=h.adv.name;refine aa (GQ (e:=DN f.2.2.2.2.1.2.2.2.2) h.adv.cond r5 h.adv.nodes) fun p hp=>ah (fun _=>ae rfl) fun _=>?_;have u8:=iN p.1;refine aa (gx _ (by omega)) fun a ha=>aa (fN _ (by omega)) fun b hb=>?_;subst ha hb;refine aa (ct (by omega)) fun c hc=>aa (wN _ h.adv.ranges r3) fun d hd=>?_;have cl:c.length<=150:=by rw[hc,List.length_append]; omega
    refine aa (ct (by omega)) fun g hg=>aa (fN _ (by omega)) fun i hi=>?_;subst hi;have gl:g.length<=650:=by rw[hg,List.length_append]; omega
    refine aa (ct (by omega)) fun j hj=>aa (fN _ (by omega)) fun m hm=>?_;subst hm;have jl:j.length<=700:=by rw[hj,List.length_append]; omega
    refine aa (ct (by omega)) fun o ho=>?_;exact pF (k:=10000) (by omega) (by omega) (by rw[ho,List.length_append]; omega) hsx
   ·have e1:=hx.2 e1;have e2:=kD e2;have e3:=kD e3;obtain⟨r1,r2,r3⟩:(∀ k∈f.2.2.2.2.2.1,0<=k/\k<200)/\(1<=f.2.2.2.2.2.2.1/\f.2.2.2.2.2.2.1<=1000)/\0<=f.2.2.2.2.2.2.2.1/\f.2.2.2.2.2.2.2.1<=200000:=by
     rcases hk with h | h | h | h
     ·omega
     ·omega
     ·omega
     ·exact h.2.2
    have u5:=gC f.2.2.2.2.2.2.1;have u6:=gC f.2.2.2.2.2.2.2.1;refine aa (fN _ (by omega)) fun a ha=>aa (JN _ h.keys r1) fun b hb=>?_;subst ha;refine aa (ct (by omega)) fun c hc=>aa (gx _ (by omega)) fun d hd=>?_;subst hd;have cl:c.length<=1300:=by rw[hc,List.length_append]; omega
    refine aa (ct (by omega)) fun g hg=>aa (gx _ (by omega)) fun i hi=>?_;subst hi;have gl:g.length<=1350:=by rw[hg,List.length_append]; omega
    refine aa (ct (by omega)) fun o ho=>?_;exact pF (k:=2000) (by omega) (by omega) (by rw[ho,List.length_append]; omega) hsx
 ·cases y with
  | inr r =>
   have hr:r=([],6):=hy;subst hr;exact ae (.inr ⟨by decide,rfl⟩)
  | inl s =>
   show Has (dj.j2 s) _;unfold dj.j2;refine ah (fun _=>ae (.inr ⟨by decide,rfl⟩)) fun e=>ae (.inl ⟨rfl,hrb,hy,?_⟩);have e:=dx e;show s.length<=20000;omega
end Go.Proofs.YtkpefpjpadahiaaGreatDoor
namespace Go.Proofs.YtkpefpjpadahiaaGreatDoor
open Go.Lad
theorem DR {l m:Bs} {n:Int} (h:n=(l.length:Int)):cut (l++m) 0 n=some l:=by
 unfold cut;rw[h,if_pos ⟨by omega,by omega,by rw[List.length_append]; omega⟩,Int.toNat_natCast,List.take_left]; rfl
theorem wQ {l m:Bs} {n k:Int} (h:n=(l.length:Int)) (hk:k=((l++m).length:Int)):cut (l++m) n k=some m:=by
 unfold cut;rw[h,hk,if_pos ⟨by omega,by rw[List.length_append]; omega,by omega⟩,Int.toNat_natCast,Int.toNat_natCast,List.take_length,List.drop_left]
theorem B6 (c:UInt8) (hc:c.toNat<48\/57<c.toNat) (n:Int) (h0:0<=n) (h1:n<1000000000000000000) (t:Bs) (b:Bool) :
  ca (c.toNat:Int) 0 (gW n++[c]++t) b=some (n,t,b):=by
 have hl:=gX n;have hd:=JK n;have hne:∀ x∈gW n,x≠c:=fun x hx e=>by
  have:=hd x hx;rw[e] at this;omega
 have hlen:(gW n++[c]++t).length=(gW n).length+1+t.length:=by
  rw[List.length_append,List.length_append]; rfl
 obtain⟨u,hu⟩:∃ u,(gW n++[c]++t).take (min ((gW n++[c]++t).length:Int) 21).toNat=gW n++c::u:=by
  have hK:(gW n).length+1<=(min ((gW n++[c]++t).length:Int) 21).toNat:=by rw[hlen]; omega
  generalize (min ((gW n++[c]++t).length:Int) 21).toNat=K at hK ⊢;obtain⟨j,rfl⟩:∃ j,K=(gW n).length+1+j:=⟨K-((gW n).length+1),by omega⟩;refine⟨t.take j,?_⟩;rw[List.append_assoc,List.take_append,List.take_of_length_le (by omega),show (gW n).length+1+j-(gW n).length=j+1 by omega];rfl
 have hcut:cut (gW n++[c]++t) 0 (min ((gW n++[c]++t).length:Int) 21)=some (gW n++c::u):=by
  unfold cut;rw[if_pos ⟨by omega,by omega,by omega⟩,hu]; rfl
 unfold ca;rw[hcut];rw[aA];have hidx:strings_IndexByte (gW n++c::u) (c.toNat:Int)=some ((gW n).length:Int):=by
  show oG _ _=_;unfold oG;rw[Int.toNat_natCast,Fh c u (gW n) 0 hne,Nat.zero_add]
 rw[hidx,aA];rw[dP,decide_eq_false (by omega)];show ((cut (gW n++c::u) 0 ((gW n).length:Int)).bind _)=_;rw[DR rfl];show ((strconv_Atoi (gW n)).bind _)=_;rw[show strconv_Atoi (gW n)=some n from JJ h0 h1];show (((strconv_Itoa n).bind _).bind _)=_;obtain⟨s,hs,hs2⟩:=km h0 (by omega:n<=9223372036854775807);subst hs2;rw[hs,aA,aA];show ((bif !decide (gW n=gW n) then some true else some (ltZ n 0)).bind _)=_;rw[decide_eq_true rfl];show ca.j1 (gW n++[c]++t) b ((gW n).length:Int) n (ltZ n 0)=_;rw[dP,decide_eq_false (by omega)];unfold ca.j1;show (z64 ((gW n).length+1:Int)).bind _=_;rw[DD (by omega) (by omega)];show ((cut (gW n++[c]++t) ((gW n).length+1:Int) ((gW n++[c]++t).length:Int)).bind _)=_;rw[wQ (by rw[List.length_append]; rfl) rfl];rfl
theorem tr {n:Int} (h0:0<=n) (h1:n<1000000000000000000) (t:Bs) (b:Bool):dF (nuB n++t) b=some (n,t,b):=by
 unfold dF nuB;rw[if_neg (by omega)];rw[show ca 59 0 (gW n++[59]++t) b=some (n,t,b) from B6 59 (by decide) n h0 h1 t b];rfl
theorem DS (t:Bs) (b:Bool):eJ [44] ([44]++t) b=some (t,b):=by
 unfold eJ strings_CutPrefix cR cQ;rw[show leZ (([44]:Bs).length:Int) ((([44]:Bs)++t).length:Int)=true by rw[iv,decide_eq_true]; rw[List.length_append]; omega];show ((((((cut ([44]++t) 0 (([44]:Bs).length:Int)).bind _).bind _).bind _).bind _))=_;rw[DR rfl];show (((((cut ([44]++t) (([44]:Bs).length:Int) ((([44]:Bs)++t).length:Int)).bind _).bind _).bind _))=_;rw[wQ rfl rfl];rfl
theorem wR (s t:Bs) (hs:s.length<=1000000):db (np s++t) false=some (s,t,false):=by
 unfold db np;rw[show gW (s.length:Int)++[58]++s++[44]++t=gW (s.length:Int)++[58]++(s++([44]++t)) by simp only[List.append_assoc]];rw[show ca 58 0 (gW (s.length:Int)++[58]++(s++([44]++t))) false=some ((s.length:Int),s++([44]++t),false) from B6 58 (by decide) _ (by omega) (by omega) _ _];show (bif ltZ ((s++([44]++t)).length:Int) (s.length:Int) then _ else _)=_;rw[dP,decide_eq_false (by rw[List.length_append]; omega)];show ((cut (s++([44]++t)) 0 (s.length:Int)).bind _)=_;rw[DR rfl];show ((cut (s++([44]++t)) (s.length:Int) ((s++([44]++t)).length:Int)).bind _)=_;rw[wQ rfl rfl];show ((eJ [44] ([44]++t) false).bind _)=_;rw[DS];rfl
theorem zQ {k:Bs} (hk:k≠[]) (hl:k.length<=1000000) (t:Bs):er (np k++t)=some (k,true):=by
 unfold er;show ((db (np k++t) false).bind _)=_;rw[wR k t hl];show (bif decide (k=[]) then _ else _)=_;rw[decide_eq_false hk];rfl
theorem JS:er []=some ([],false):=by
 have h:db [] false=some ([],[],true):=by kernel_rfl
 obtain⟨s,hs,hs2⟩:=fN [] (by decide);unfold er;rw[show jy []=some ([],false) from rfl,aA];dsimp only;rw[h,aA];dsimp only;rw[decide_eq_true rfl,cond_true,hs,aA];have:1<=s.length:=by
  rw[hs2];unfold np;simp
 rw[iv,decide_eq_false (by show ¬ (s.length:Int)<=0; omega)];rfl
def clB (c:eY):Bs:=nuB c.1++nuB c.2.1++nuB c.2.2.1++np c.2.2.2
theorem DT {c:eY} (h1:0<=c.1/\c.1<=10) (h2:0<=c.2.1/\c.2.1<=200000) (h3:c.2.2.1=0) (h4:c.2.2.2.length<=20000) (hr:cq c=some true):dQ (clB c)=some (c,0):=by
 obtain⟨k,n,m,s⟩:=c;simp only at h1 h2 h3 h4;unfold dQ clB;show ((dF (nuB k++nuB n++nuB m++np s) false).bind _)=_;rw[show nuB k++nuB n++nuB m++np s=nuB k++(nuB n++(nuB m++(np s++[]))) by simp only[List.append_assoc,List.append_nil]];rw[tr h1.1 (by omega)];show ((dF (nuB n++(nuB m++(np s++[]))) false).bind _)=_;rw[tr h2.1 (by omega)];show ((dF (nuB m++(np s++[])) false).bind _)=_;rw[tr (by omega) (by omega)];show ((db (np s++[]) false).bind _)=_;rw[wR s [] (by omega)];show (((cq (k,n,m,s)).bind _).bind _)=_;rw[hr];rfl
theorem wS {c:eY} (h1:c.1<=10) (h2:c.2.1<=200000) (h3:c.2.2.1=0) (h4:c.2.2.2.length<=20000) (hr:cq c=some true):eG c=some (clB c):=by
 have u1:=gC c.1;have u2:=gC c.2.1;have u3:=gC c.2.2.1;have u4:=iN c.2.2.2;have key:Has (eG c) (fun s=>s=clB c):=by
  unfold eG;rw[hr];show Has ((dm c.1).bind _) _;refine aa (gx _ (by omega)) fun a ha=>aa (gx _ (by omega)) fun b hb=>?_;subst ha hb;refine aa (ct (by omega)) fun d hd=>aa (gx _ (by omega)) fun e he=>?_;subst hd he;refine aa (ct (by rw[List.length_append]; omega)) fun f hf=>aa (fN _ (by omega)) fun g hg=>?_;subst hf hg;exact aa (ct (by rw[List.length_append,List.length_append]; omega)) fun i hi=>ae hi
 obtain⟨s,hs,rfl⟩:=key;exact hs
theorem GR {c:eY} (hr:cq c=some false):eG c=some []:=by
 unfold eG;rw[hr]; rfl
theorem oM {n:Int} {k:Bs} (h0:0<=n) (h1:n<=200000) (h2:k.length<=20000):cq (2,n,0,k)=some true:=by
 unfold cq;show ((bif ltZ n 0 then some true else bif ltZ 200000 n then some true else bif ltZ 0 0 then some true else bif ltZ 0 0 then some true else some (ltZ 20000 (k.length:Int))).bind _)=_;rw[dP,decide_eq_false (by omega),dP,decide_eq_false (by omega)];show cq.j1 (2,n,0,k) _ (ltZ 20000 (k.length:Int))=_;rw[dP,decide_eq_false (by omega)];rfl
theorem pG {n:Int} {s:Bs} {b:Bool} {k:Bs} (h0:0<=n) (h1:n<=199999) (h2:s.length<=20000) (hk:er s=some (k,b)):cq (0,n,0,s)=some b:=by
 unfold cq;show ((bif ltZ n 0 then some true else bif ltZ 199999 n then some true else bif ltZ 0 0 then some true else bif ltZ 0 0 then some true else some (ltZ 20000 (s.length:Int))).bind _)=_;rw[dP,decide_eq_false (by omega),dP,decide_eq_false (by omega)];show cq.j1 (0,n,0,s) _ (ltZ 20000 (s.length:Int))=_;rw[dP,decide_eq_false (by omega)];unfold cq.j1;show ((er s).bind _)=_;rw[hk];rfl
theorem GS {n m:Int} {k s:Bs} {t:Bs} (hs:s=np k++t) (hk:k≠[]) (hl:k.length<=20000) (hsl:s.length<=20000) (h0:0<=n) (h1:n<=200000) (h2:0<=m) (h3:m<=199999) :
  bp (2,n,0,k) (0,m,0,s)=some (decide (m<n)):=by
 have hkey:er s=some (k,true):=by rw[hs]; exact zQ hk (by omega) t
 unfold bp;rw[oM h0 h1 hl];show (((cq (0,m,0,s)).bind _).bind _)=_;rw[pG h2 h3 hsl hkey];show ((fX (0,m,0,s) (2,n,0,k)).bind _)=_;unfold fX;show (((er s).bind _).bind _)=_;rw[hkey];show ((bif ltZ m n then some (decide (k=k)) else some false).bind _)=_;rw[dP,decide_eq_true rfl];cases decide (m<n) <;> rfl
theorem JT:dQ []=some ((0,0,0,[]),2):=by kernel_rfl
end Go.Proofs.YtkpefpjpadahiaaGreatDoor
namespace Go.Proofs.YtkpefpjpadahiaaGreatDoor
open Go.Lad
theorem wT {K:List Bs} {x:Bs} {n:Nat}:(∃ m,pos K x=some m/\m<n)↔x∈K.take n:=by
 constructor
 ·rintro⟨m,h,hm⟩;have h1:=(ig h).1;exact List.mem_iff_getElem?.2 ⟨m,by rw[List.getElem?_take,if_pos hm]; exact h1⟩
 ·intro h;obtain⟨i,hi⟩:=List.mem_iff_getElem?.1 h;rw[List.getElem?_take] at hi;split at hi
  ·rename_i hin;cases hp:pos K x with
   | none=>exact absurd (List.mem_of_getElem? hi) (jI.1 hp)
   | some m =>
    refine⟨m,rfl,?_⟩;rcases Nat.lt_or_ge m n with h1 | h1
    ·exact h1
    ·exact absurd hi ((ig hp).2 i (by omega))
  ·cases hi
structure wU (log:List bX) (ents:List Bs) (F:List (Bs×Int)):Prop where
 len:ents.length=log.length
 look:∀ k,cM F k=(pos (log.map dN) k).map fun i=>(i:Int)
 mem:∀ g∈log,mS g/\bV g=some true
theorem Me:wU [] [] []:=⟨rfl,fun k=>rfl,fun g hg=>by cases hg⟩
theorem zR (f:bX):dN f≠[]:=by
 unfold dN;split
 ·simp
 ·split
  ·simp
  ·split
   ·simp
   ·split <;> simp
theorem DU {log:List bX} {ents:List Bs} {F:List (Bs×Int)} (h:wU log ents F) {g:bX} (hg:mS g) (hr:bV g=some true) {s t:Bs} (hs:s=np (dN g)++t) (hl:s.length<=20000) (hn:ents.length<=1000) :
  Has (fC s 3 false 0 0 [] [] ents F) (fun a=>∃ F',a=((ents.length:Int),0,3,false,0,0,ents++[s],[],[],F')/\wU (log++[g]) (ents++[s]) F'):=by
 have hk:er s=some (dN g,true):=by rw[hs]; exact zQ (zR g) (by have:=pE g hg; omega) t
 have hmem:∀ x∈log++[g],mS x/\bV x=some true:=fun x hx=>by
  rcases List.mem_append.1 hx with hx | hx
  ·exact h.mem x hx
  ·rw[List.mem_singleton.1 hx]; exact⟨hg,hr⟩
 have hlen:(ents++[s]).length=(log++[g]).length:=by rw[List.length_append,List.length_append,h.len]; rfl
 unfold fC;rw[hk,aA];refine ah (fun e=>by cases e) fun _=>ah (fun e=>absurd (eT e) (by omega)) fun _=>ah (fun e=>absurd (j0 e) (by omega)) fun _=>ah (fun e=>?_) fun e=>?_
 ·refine aa (mi (by simp; omega)) fun m hm=>ae ⟨gv F (dN g) (ents.length:Int),by rw[hm],hlen,fun k=>?_,hmem⟩;have hp:pos (log.map dN) (dN g)=none:=by
   have e:(cM F (dN g)).isSome=false:=by simpa using e
   rw[h.look] at e;cases hp:pos (log.map dN) (dN g) with
   | none=>rfl
   | some i=>rw[hp] at e; cases e
  rw[BH,h.look,List.map_append,kZ];by_cases hx:k=dN g
  ·subst hx;rw[if_pos rfl,hp,List.map_cons,List.map_nil,h.len];simp [pos]
  ·rw[if_neg hx];cases pos (log.map dN) k with
   | some i=>rfl
   | none =>
    have:pos ([g].map dN) k=none:=jI.2 (by simp [hx]);rw[this]; rfl
 ·refine aa (mi (by simp; omega)) fun m hm=>ae ⟨F,by rw[hm],hlen,fun k=>?_,hmem⟩;have hp:∃ i,pos (log.map dN) (dN g)=some i:=by
   have e:(cM F (dN g)).isSome=true:=by simpa using e
   rw[h.look] at e;cases hp:pos (log.map dN) (dN g) with
   | none=>rw[hp] at e; cases e
   | some i=>exact⟨i,rfl⟩
  obtain⟨i,hp⟩:=hp;rw[h.look,List.map_append,kZ];cases hq:pos (log.map dN) k with
  | some i=>rfl
  | none =>
   have hx:k≠dN g:=fun e=>by rw[e,hp] at hq; cases hq
   have:pos ([g].map dN) k=none:=jI.2 (by simp [hx]);rw[this]; rfl
theorem Ph {g:bX} (h:g.1=0):dN g=[114,101,108,101,97,115,101,32]++g.2.2.2.1.1++[32]++zL g.2.2.2.1.2.1:=by unfold dN; rw[if_pos h]
theorem Pj {g:bX} (h:g.1=1\/g.1=2):dN g=[121,97,110,107,32]++g.2.1++[32]++zL g.2.2.1:=by unfold dN; rw[if_neg (by omega),if_pos h]
theorem Pk {g:bX} (h:g.1=3):dN g=[97,100,118,105,115,101,32]++g.2.2.2.2.1.2.1:=by unfold dN; rw[if_neg (by omega),if_neg (by omega),if_pos h]
theorem Pm {g:bX} (h:g.1=7):dN g=[98,117,105,108,100,32]++g.2.1++[32]++zL g.2.2.1:=by unfold dN; rw[if_neg (by omega),if_neg (by omega),if_neg (by omega),if_pos h]
theorem Pn {g:bX} (h:g.1=4\/g.1=5\/g.1=6):dN g=[107,101,121,115,32]++g.2.1:=by unfold dN; rw[if_neg (by omega),if_neg (by omega),if_neg (by omega),if_neg (by omega)]
theorem zS {a b:cZ} (h:(eqZ a.1 b.1 && (eqZ a.2.1 b.2.1 && eqZ a.2.2 b.2.2))=true):a=b:=by
 rw[Bool.and_eq_true,Bool.and_eq_true] at h;exact Prod.ext (dW h.1) (Prod.ext (dW h.2.1) (dW h.2.2))
theorem DV {l:List bX} (hl:l.length<=1000) {s:Bs} {v:cZ} (h:∀ g∈l,¬ (g.1=0/\g.2.2.2.1.1=s/\g.2.2.2.1.2.1=v)):Has (gB l s v) (fun r=>r.2.2=false):=by
 unfold gB;refine aa (Q:=fun i:Int=>i = -1) ?_ fun i hi=>?_
 ·unfold bf;refine kk l (by omega) (fun i x hx=>?_) ?_
  ·obtain⟨hi,_⟩:=List.getElem?_eq_some_iff.1 hx;unfold bf.b1;refine ah (fun _=>?_) fun h2=>absurd (dx h2) (by omega);refine aa (bO (by omega) (by omega)) fun g hg=>?_;rw[idF];refine aa (Q:=fun b:Bool=>b=false) ?_ fun b hb=>?_
   ·unfold gV;refine ah (fun e0=>ah (fun e1=>ae ?_) fun _=>ae rfl) fun _=>ae rfl;rw[Bool.eq_false_iff];intro e2;exact h g hg.1 ⟨dW e0,of_decide_eq_true e1,zS e2⟩
   ·subst hb;refine aa (bD (by omega) (by omega)) fun j hj=>ae ?_;show j=_;omega
  ·unfold bf.b1;exact ah (fun h2=>absurd (eT h2) (by omega)) fun _=>ae rfl
 ·subst hi;exact ae rfl
theorem Fl {l:List bX} (hl:l.length<=1000) {a b:Int} {s:Bs} {v:cZ} (h:∀ g∈l,¬ ((g.1=a\/g.1=b)/\g.2.1=s/\g.2.2.1=v)):Has (fe l a b s v) (fun r=>r.2=false):=by
 unfold fe;refine aa (bD (by omega) (by omega)) fun k hk=>?_;refine fK (fun i=>-1<=i/\i<(l.length:Int)) (fun i=>(i+1).toNat) ⟨by omega,by omega⟩ (by show (k+1).toNat<=_; omega) (fun i hi _=>?_);show Has (fe.b1 l a b s v i) _;unfold fe.b1;refine ah (fun e=>?_) fun _=>ae rfl;have e:=j0 e;refine aa (bO (by omega) (by omega)) fun g hg=>aa (Q:=fun b:Bool=>b=false) ?_ fun b hb=>?_
 ·refine ah (fun e0=>ah (fun e1=>ae ?_) fun _=>ae rfl) fun _=>ah (fun e0=>ah (fun e1=>ae ?_) fun _=>ae rfl) fun _=>ae rfl
  ·rw[Bool.eq_false_iff];intro e2;exact h g hg.1 ⟨.inl (dW e0),of_decide_eq_true e1,zS e2⟩
  ·rw[Bool.eq_false_iff];intro e2;exact h g hg.1 ⟨.inr (dW e0),of_decide_eq_true e1,zS e2⟩
 ·subst hb;unfold fe.j1;refine aa (bD (by omega) (by omega)) fun j hj=>ae ?_;subst hj;exact⟨⟨by omega,by omega⟩,by show (i-1+1).toNat<(i+1).toNat; omega⟩
theorem DW {l:List bX} (hl:l.length<=1000) {s:Bs} {v:cZ} (h:∀ g∈l,¬ (g.1=3/\g.2.2.2.2.1.2.1=s)):Has (dL l s v) (fun r=>r=[]):=by
 unfold dL;refine has_fold l (fun i o=>o=[]) hl rfl (fun i hi o ho=>?_) fun o ho=>?_
 ·subst ho;show Has (dL.b1 l s v (i:Int) []) _;unfold dL.b1;refine ah (fun _=>?_) fun h2=>absurd (dx h2) (by omega);refine aa (bO (by omega) (by omega)) fun g hg=>aa (Q:=fun b:Bool=>b=false) ?_ fun b hb=>?_
  ·exact ah (fun e0=>ah (fun e1=>absurd ⟨dW e0,of_decide_eq_true e1⟩ (h g hg.1)) fun _=>ae rfl) fun _=>ae rfl
  ·subst hb;unfold dL.j1;exact aa (bD (by omega) (by omega)) fun j hj=>ae ⟨by show j=_; omega,rfl⟩
 ·subst ho;show Has (dL.b1 l s v (l.length:Int) []) _;unfold dL.b1;exact ah (fun h2=>absurd (eT h2) (by omega)) fun _=>ae rfl
theorem JU {l:List bX} (hl:l.length<=1000) {s:Bs} (h:∀ g∈l,¬ ((g.1=4\/g.1=5)/\g.2.1=s)):Has (jP l s) (fun r=>r.2.2=false):=by
 unfold jP;refine aa (Q:=fun i:Int=>i = -1) ?_ fun i hi=>?_
 ·unfold iM;refine aa (bD (by omega) (by omega)) fun k hk=>?_;refine fK (fun i=>-1<=i/\i<(l.length:Int)) (fun i=>(i+1).toNat) ⟨by omega,by omega⟩ (by show (k+1).toNat<=_; omega) (fun i hi _=>?_);show Has (iM.b1 l s i) _;unfold iM.b1;refine ah (fun e=>?_) fun _=>ae rfl;have e:=j0 e;refine aa (bO (by omega) (by omega)) fun g hg=>?_;rw[idF];refine aa (Q:=fun b:Bool=>b=false) ?_ fun b hb=>?_
  ·unfold jf;rw[idF];refine aa (Q:=fun b:Bool=>b=false) ?_ fun b hb=>ae hb;unfold lu;refine ah (fun e0=>ae ?_) fun _=>ah (fun e0=>ae ?_) fun _=>ae rfl
   ·exact decide_eq_false fun e1=>h g hg.1 ⟨.inr (dW e0),e1⟩
   ·exact decide_eq_false fun e1=>h g hg.1 ⟨.inl (dW e0),e1⟩
  ·subst hb;refine aa (bD (by omega) (by omega)) fun j hj=>ae ?_;subst hj;exact⟨⟨by omega,by omega⟩,by show (i-1+1).toNat<(i+1).toNat; omega⟩
 ·subst hi;exact ae rfl
end Go.Proofs.YtkpefpjpadahiaaGreatDoor
namespace Go.Proofs.YtkpefpjpadahiaaGreatDoor
open Go.Lad
theorem B7 {c:eY} (h1:c.1=0\/c.1=2) (h2:0<=c.2.1/\c.2.1<=200000) (h3:c.2.2.1=0) (h4:c.2.2.2.length<=20000) (hr:cq c=some true):eR (clB c)=some (c,true):=by
 unfold eR;rw[DT (by omega) h2 h3 h4 hr,aA];show (bif eqZ c.1 0 then some (c,true) else bif eqZ c.1 1 then some (c,true) else some (c,eqZ c.1 2))=_;rcases h1 with h | h <;> rw[h] <;> rfl
theorem GU:eR []=some ((0,0,0,[]),false):=by
 unfold eR;rw[JT]; rfl
theorem B8 {E:List ew} {M:RM} (h:Ring E M) (hl:E.length<=1000) (t:Bs):∃ s E' M',di 3 t E M=some (s,E',M')/\Ring E' M'/\E'.length<=E.length+1/\bK s E' M'=some true/\s.1=3/\s.2.1=t:=by
 have hk:isKey ((3,t):ew).1=true:=by unfold isKey; exact decide_eq_true (by show (0:Int)<=3/\(3:Int)<200; omega)
 obtain⟨i,hp,hs⟩:=GL (E:=E) hk;have hR:tR E (3,t)=(3,t,(((pos E (3,t)).getD E.length:Nat):Int)):=by unfold tR; rw[if_pos hk]
 exact⟨_,_,_,sign_eq h hl 3 t,yr h _,(GK E _).2,Jx (yr h _) hp hs,by rw[hR],by rw[hR]⟩
theorem Oo {p2 p3 p4:Int} {p5:Bs}:aO [] p2 p3 p4 p5=some false:=by
 have key:Has (aC [] p2 p3 p4 p5) (fun i=>i = -1):=by
  unfold aC;refine kk ([]:List eY) (by decide) (fun i x hx=>by cases hx) ?_;unfold aC.b1;exact ah (fun h2=>absurd (eT h2) (by decide)) fun _=>ae rfl
 obtain⟨i,hi,rfl⟩:=key;unfold aO;rw[hi]; rfl
theorem JV {c x:eY} {b:Bool} (h:bp c x=some b):aO [c] x.1 x.2.1 x.2.2.1 x.2.2.2=some b:=by
 have key:Has (aC [c] x.1 x.2.1 x.2.2.1 x.2.2.2) (fun i=>(b=true->0<=i)/\(b=false->i = -1)):=by
  unfold aC;refine fK (fun i=>i=0\/i=1/\b=false) (fun i=>(1-i).toNat) (.inl rfl) (by show (1-(0:Int)).toNat<=_; decide) (fun i hi _=>?_);rcases hi with hi | ⟨hi,hb⟩
  ·subst hi;show Has (aC.b1 [c] x.1 x.2.1 x.2.2.1 x.2.2.2 0) _;unfold aC.b1;refine ah (fun _=>?_) fun h2=>absurd (dx h2) (by show ¬ ((1:Nat):Int)<=0; omega);refine aa (ae (Q:=fun y=>y=c) rfl) fun y hy=>?_;subst hy;refine aa (Q:=fun d=>d=b) ?_ fun d hd=>?_
   ·unfold fu;exact aa (iB (Q:=fun d=>d=b) h rfl) fun d hd=>ae hd
   ·subst hd;refine ah (fun e=>ae ⟨fun _=>by omega,fun e'=>by rw[e] at e'; cases e'⟩) fun e=>aa (bD (by omega) (by omega)) fun j hj=>ae ?_;subst hj;exact⟨.inr ⟨rfl,e⟩,by show (1-((0:Int)+1)).toNat<(1-(0:Int)).toNat; decide⟩
  ·subst hi;show Has (aC.b1 [c] x.1 x.2.1 x.2.2.1 x.2.2.2 1) _;unfold aC.b1;refine ah (fun h2=>absurd (eT h2) (by show ¬ (1:Int)<((1:Nat):Int); omega)) fun _=>ae ⟨fun e=>(by rw[e] at hb; cases hb),fun _=>rfl⟩
 obtain⟨i,hi,hi1,hi2⟩:=key;unfold aO;rw[hi];show some (leZ 0 i)=some b;rw[iv];cases b with
 | true=>rw[decide_eq_true (hi1 rfl)]
 | false=>rw[hi2 rfl]; rfl
theorem B9 (l:List da) (h:l.length<=1000) (s:da):Has (bq l s) (fun b=>l=[]->b=false):=by
 unfold bq;refine aa (Q:=fun i:Int=>l=[]->i = -1) ?_ fun i hi=>ae fun e=>by rw[hi e]; rfl
 unfold bb;refine kk l (by omega) (fun i x hx=>?_) ?_
 ·obtain⟨hi,_⟩:=List.getElem?_eq_some_iff.1 hx;unfold bb.b1;refine ah (fun _=>?_) fun h2=>absurd (dx h2) (by omega);refine aa (bO (by omega) (by omega)) fun _ _=>ah (fun _=>ae fun e=>by rw[e] at hi; exact absurd hi (Nat.not_lt_zero _)) fun _=>aa (bD (by omega) (by omega)) fun j hj=>ae ?_;show j=_;omega
 ·unfold bb.b1;exact ah (fun h2=>absurd (eT h2) (by omega)) fun _=>ae fun _=>rfl
theorem zT {s:da} {E:List ew} {M:RM} {n:Int} {k:Bs} (hs:s.1=3) (hv:bK s E M=some true) (ht:s.2.1=clB (2,n,0,k)) (h0:0<=n) (h1:n<=200000) (hk:k.length<=20000) :
  ∃ am,br s 3 0 (-1) E M [] [] [] []=some (0,3,0,-1,[s],[(2,n,0,k)],E,M,[],am):=by
 unfold br;rw[ht,B7 (.inr rfl) ⟨h0,h1⟩ rfl hk (oM h0 h1 hk),aA,hv,aA,hs];refine⟨gv [] k (max ((cM ([]:List (Bs×Int)) k).getD 0) n),?_⟩;simp only[Bool.not_true,cond_false,show eqZ 3 3=true from rfl];rw[Oo,aA];obtain⟨b,hb,hb2⟩:=B9 [] (by decide) s;rw[show b=false from hb2 rfl] at hb;simp only[cond_false];rw[hb,aA];simp only[cond_false];rw[tg (by show 0+1<=2147483647; decide),aA,tg (by show 0+1<=2147483647; decide),aA];rfl
theorem zU {s s1:da} {E:List ew} {M:RM} {c1 c2:eY} {em:List ew} {am:List (Bs×Int)} (hs:s.1=3) (hv:bK s E M=some true) (ha:eR s.2.1=some (c2,true)) (hc:bp c1 c2=some true) :
  br s 3 0 (-1) E M [s1] [c1] em am=some (21,3,0,-1,[s1],[c1],E,M,em,am):=by
 unfold br;rw[ha,aA,hv,aA,hs];show ((aO [c1] c2.1 c2.2.1 c2.2.2.1 c2.2.2.2).bind _)=_;rw[JV hc,aA]; rfl
theorem tW {s s1:da} {E:List ew} {M:RM} {c1 c2:eY} {em:List ew} {am:List (Bs×Int)} (hs:s.1=3) (hv:bK s E M=some true) (ha:eR s.2.1=some (c2,false)) :
  br s 3 0 (-1) E M [s1] [c1] em am=some (2,3,0,-1,[s1],[c1],E,M,em,am):=by
 unfold br;rw[ha,aA,hv,aA,hs]; rfl
theorem GV {s s1:da} {E:List ew} {M:RM} {c1 c2:eY} {em:List ew} {am:List (Bs×Int)} (hs:s.1=3) (hv:bK s E M=some true) (ha:eR s.2.1=some (c2,true)) (hc:bp c1 c2=some false) (h0:c2.1=0) :
  Has (br s 3 0 (-1) E M [s1] [c1] em am) (fun a=>a.1=0):=by
 unfold br;rw[ha,aA,hv,aA,hs];show Has ((aO [c1] c2.1 c2.2.1 c2.2.2.1 c2.2.2.2).bind _) _;rw[JV hc,aA];show Has ((bq [s1] s).bind _) _;refine aa (B9 [s1] (by show 1<=1000; decide) s) fun b _=>ah (fun _=>ae rfl) fun _=>aa (mi (by show 1+1<=1000000; decide)) fun _ _=>aa (mi (by show 1+1<=1000000; decide)) fun _ _=>?_;show Has (bif eqZ c2.1 0 then _ else _) _;rw[h0];exact ae rfl
theorem yz {f:bX} (hf:mS f) {T:Bs×Int} (hT:dj f=some T) (hq:JR f T) {E:List ew} {M:RM} (hR:Ring E M) (hl:E.length<=900) {m:Int} (h0:0<=m) (h1:m<=199999) :
  ∃ s E' M',cD 3 m f E M=some (s,E',M')/\Ring E' M'/\E'.length<=E.length+1/\bK s E' M'=some true/\s.1=3 /\
   ((T.2=0/\eR s.2.1=some ((0,m,0,T.1),true))\/(T.2≠0/\∃ c,eR s.2.1=some (c,false))):=by
 have key:∃ t,eG (0,m,0,T.1)=some t/\((T.2=0/\eR t=some ((0,m,0,T.1),true))\/(T.2≠0/\∃ c,eR t=some (c,false))):=by
  rcases hq with⟨q1,q2,⟨t,q3⟩,q4⟩ | ⟨q1,q2⟩
  ·have hk:er T.1=some (dN f,true):=by rw[q3]; exact zQ (zR f) (by have:=pE f hf; omega) t
   have hr:=pG h0 h1 q4 hk;exact⟨_,wS (by show (0:Int)<=10; decide) (by show m<=200000; omega) rfl q4 hr,.inl ⟨q1,B7 (.inl rfl) ⟨h0,by show m<=200000; omega⟩ rfl q4 hr⟩⟩
  ·have hr:cq (0,m,0,T.1)=some false:=by rw[q2]; exact pG h0 h1 (by decide) JS
   exact⟨_,GR hr,.inr ⟨q1,_,GU⟩⟩
 obtain⟨t,ht,hta⟩:=key;obtain⟨s,E',M',s1,s2,s3,s4,s5,s6⟩:=B8 hR (by omega) t;refine⟨s,E',M',?_,s2,s3,s4,s5,by rw[s6]; exact hta⟩;unfold cD;rw[idF,hT,aA,ht,aA,s1,aA]
theorem Ca {f:bX} {T:Bs×Int} (hT:dj f=some T):ef f=some (if T.2=0 then 21 else 2):=by
 unfold ef;rw[idF,hT,aA,fE];by_cases h:T.2=0
 ·rw[decide_eq_true h,if_pos h]; rfl
 ·rw[decide_eq_false h,if_neg h]; rfl
theorem Cb {f:bX} {T:Bs×Int} (hT:dj f=some T):eh f=some (if T.2=0 then 0 else 2):=by
 unfold eh;rw[idF,hT,aA,fE];by_cases h:T.2=0
 ·rw[decide_eq_true h,if_pos h]; rfl
 ·rw[decide_eq_false h,if_neg h]; rfl
end Go.Proofs.YtkpefpjpadahiaaGreatDoor
namespace Go.Proofs.YtkpefpjpadahiaaGreatDoor
open Go.Lad
theorem alive:eS=some true:=by kernel_rfl
end Go.Proofs.YtkpefpjpadahiaaGreatDoor
namespace Go.Proofs.YtkpefpjpadahiaaGreatDoor
open Go.Lad
theorem Mf (l:List bX) (hl:l.length<=10) (hf:∀ g∈l,mS g):Has (bS (fun x=>ak.b1 l x.1 x.2.1 x.2.2.1 x.2.2.2.1 x.2.2.2.2.1 x.2.2.2.2.2.1 x.2.2.2.2.2.2.1 x.2.2.2.2.2.2.2.1 x.2.2.2.2.2.2.2.2.1 x.2.2.2.2.2.2.2.2.2.1 x.2.2.2.2.2.2.2.2.2.2.1 x.2.2.2.2.2.2.2.2.2.2.2.1 x.2.2.2.2.2.2.2.2.2.2.2.2.1 x.2.2.2.2.2.2.2.2.2.2.2.2.2.1 x.2.2.2.2.2.2.2.2.2.2.2.2.2.2.1 x.2.2.2.2.2.2.2.2.2.2.2.2.2.2.2.1 x.2.2.2.2.2.2.2.2.2.2.2.2.2.2.2.2) (0,3,false,0,0,3,0,-1,[],[],[],[],[],[],[],[],[]))
  (fun y=>∃ log ents F,y=(log,3,false,0,0,3,0,-1,[],[],ents,F,[],[],[],[])/\log.length<=10/\wU log ents F):=by
 refine fK (fun x=>∃ (i:Nat) (log:List bX) (ents:List Bs) (F:List (Bs×Int)),x=((i:Int),3,false,0,0,3,0,-1,log,[],[],ents,F,[],[],[],[])/\i<=l.length/\log.length<=i/\wU log ents F) (fun x=>l.length-x.1.toNat) ⟨0,[],[],[],rfl,Nat.zero_le _,Nat.le_refl _,Me⟩ (by show l.length-_<=_; omega) (fun x hx _=>?_);obtain⟨i,log,ents,F,rfl,hi,hlog,hok⟩:=hx;show Has (ak.b1 l (i:Int) 3 false 0 0 3 0 (-1) log [] [] ents F [] [] [] []) _;unfold ak.b1;refine ah (fun e=>?_) fun e=>ae ⟨log,ents,F,rfl,by omega,hok⟩;have e:i<l.length:=by have:=eT e; omega
 refine aa (bO (by omega) (by omega)) fun g hg=>?_;have hg':=hf g hg.1;rw[idF];refine aa (B5 g hg') fun T hT=>ah (fun e0=>?_) fun e0=>?_
 ·have e0:=dW e0;rcases hT with⟨q1,q2,⟨t,q3⟩,q4⟩ | ⟨q1,q2⟩
  ·refine aa (DU hok hg' q2 q3 q4 (by have:=hok.len; omega)) fun a ha=>?_;obtain⟨F',rfl,hok'⟩:=ha;refine aa (bO (by omega) (by omega)) fun g2 hg2=>?_;obtain rfl:g2=g:=Option.some.inj (hg2.2.symm.trans hg.2);rw[idF];refine aa (mi (by show log.length+1<=1000000; omega)) fun m hm=>aa (bD (by omega) (by omega)) fun j hj=>ae ?_;subst hm hj;exact⟨⟨i+1,log++[g2],ents++[T.1],F',rfl,e,by rw[List.length_append]; show log.length+1<=i+1; omega,hok'⟩,by show l.length-((i:Int)+1).toNat<l.length-((i:Int)).toNat; omega⟩
  ·exact absurd e0 q1
 ·refine aa (bD (by omega) (by omega)) fun j hj=>ae ?_;subst hj;exact⟨⟨i+1,log,ents,F,rfl,e,by omega,hok⟩,by show l.length-((i:Int)+1).toNat<l.length-((i:Int)).toNat; omega⟩
theorem GX {f:bX} (hf:mS f) (hr:bV f=some true) {log:List bX} {ents:List Bs} {F:List (Bs×Int)} (h:wU log ents F) (hl:log.length<=10) {n:Int} (h0:0<=n) (h1:n<=log.length) :
  Has (bS (fun x=>ak.b2 f n log x.1 x.2) (false,0)) (fun b=>b=decide (dN f∈(log.map dN).take n.toNat)):=by
 refine fK (fun x=>∃ i:Nat,x.2=(i:Int)/\i<=n.toNat/\(x.1=true↔dN f∈(log.map dN).take i)) (fun x=>n.toNat-x.2.toNat) ⟨0,rfl,Nat.zero_le _,by rw[List.take_zero]; simp⟩ (by show n.toNat-_<=_; omega) (fun x hx _=>?_);obtain⟨b,v⟩:=x;obtain⟨i,x1,x2,x3⟩:=hx;simp only at x1 x3;subst x1;show Has (ak.b2 f n log b (i:Int)) _;unfold ak.b2;refine ah (fun e=>?_) fun e=>ae ?_
 ·have e:=eT e;have hil:i<log.length:=by omega
  have hK:(log.map dN).take (i+1)=(log.map dN).take i++[dN log[i]]:=by
   rw[List.take_succ_eq_append_getElem (by rw[List.length_map]; exact hil),List.getElem_map]
  refine ah (fun eb=>?_) fun eb=>?_
  ·refine aa (bD (by omega) (by omega)) fun j hj=>ae ?_;subst hj;exact⟨⟨i+1,rfl,by omega,fun _=>by rw[hK]; exact List.mem_append_left _ (x3.1 eb),fun _=>rfl⟩,by show n.toNat-((i:Int)+1).toNat<n.toNat-((i:Int)).toNat; omega⟩
  ·refine aa (bO (by omega) (by omega)) fun g hg=>?_;have hgi:=JL hil hg;obtain⟨g1,g2⟩:=h.mem g hg.1;rw[idF];refine aa (uE g g1 g2) fun a ha=>?_;rw[idF];refine aa (uE f hf hr) fun c hc=>aa (bD (by omega) (by omega)) fun j hj=>ae ?_;subst ha hc hj;refine⟨⟨i+1,rfl,by omega,?_⟩,by show n.toNat-((i:Int)+1).toNat<n.toNat-((i:Int)).toNat; omega⟩;show decide (dN g=dN f)=true↔_;rw[hK,decide_eq_true_iff,List.mem_append,List.mem_singleton,← hgi];have hno:dN f∉(log.map dN).take i:=fun hm=>by rw[x3.2 hm] at eb; cases eb
   exact⟨fun e=>.inr e.symm,fun e=>e.elim (fun h=>absurd h hno) Eq.symm⟩
 ·have e:=dx e;have hi:i=n.toNat:=by omega
  rw[hi] at x3;cases b with
  | true=>exact (decide_eq_true (x3.1 rfl)).symm
  | false=>exact (decide_eq_false fun hm=>by have:=x3.2 hm; cases this).symm
theorem GY {f:bX} (hf:mS f) {log:List bX} {ents:List Bs} {F:List (Bs×Int)} (h:wU log ents F) (hl:log.length<=10) {n:Int} (h0:0<=n) (h1:n<=log.length) :
  (dN f∈(log.map dN).take n.toNat->cj (dN f) n 3 false 0 0 [] [] ents F=some ((0,[],0),5,3,false,0,0,[],[],ents,F)) /\
  (dN f∉(log.map dN).take n.toNat->∃ s E M,cj (dN f) n 3 false 0 0 [] [] ents F=some (s,0,3,false,0,0,E,M,ents,F)/\Ring E M/\E.length<=1/\bK s E M=some true/\s.1=3/\s.2.1=clB (2,n,0,dN f)):=by
 have hk:=pE f hf;have hen:=h.len;have key:(bif (cM F (dN f)).isSome then some (ltZ ((cM F (dN f)).getD 0) n) else some false)=some (decide (dN f∈(log.map dN).take n.toNat)):=by
  rw[h.look];cases hp:pos (log.map dN) (dN f) with
  | none =>
   show some false=_;congr 1;exact (decide_eq_false fun hm=>by
    obtain⟨m,h2,_⟩:=wT.2 hm;rw[hp] at h2;cases h2).symm
  | some m =>
   show some (ltZ (m:Int) n)=_;rw[dP];congr 1;rw[decide_eq_decide];refine⟨fun hlt=>wT.1 ⟨m,hp,by omega⟩,fun hm=>?_⟩;obtain⟨m',h2,h3⟩:=wT.2 hm;rw[hp] at h2;cases h2;omega
 have hb:cj (dN f) n 3 false 0 0 [] [] ents F=cj.j1 (dN f) n 3 false 0 0 [] [] ents F (decide (dN f∈(log.map dN).take n.toNat)):=by
  unfold cj;rw[dP,decide_eq_false (by omega),dP,decide_eq_false (by omega),dP,decide_eq_false (by omega)];show cj.j2 (dN f) n 3 false 0 0 [] [] ents F false=_;unfold cj.j2;rw[cond_false,key,aA]
 constructor
 ·intro hm;rw[hb,decide_eq_true hm];unfold cj.j1;rw[cond_true]
 ·intro hm;obtain⟨s,E,M,s1,s2,s3,s4,s5,s6⟩:=B8 Jw (by decide) (clB (2,n,0,dN f));refine⟨s,E,M,?_,s2,s3,s4,s5,s6⟩;rw[hb,decide_eq_false hm];unfold cj.j1;rw[cond_false];unfold gU;rw[wS (c:=(2,n,0,dN f)) (by show (2:Int)<=10; decide) (by show n<=200000; omega) rfl (by show (dN f).length<=20000; omega) (oM h0 (by omega) (by omega)),aA,s1,aA,aA]
theorem Cc {f:bX} {m:List bX} (hl:m.length<=1000) (hno:∀ g∈m,dN g≠dN f) (hk:0<=f.1/\f.1<=7) {s:Bs} {v1 v2 v3:Int} (hx:(f.1=0->s=f.2.2.2.1.1/\(v1,v2,v3)=f.2.2.2.1.2.1)/\(f.1≠0->s=f.2.1/\(v1,v2,v3)=f.2.2.1)) :
  Has (bif (eqZ f.1 0) then ((gB m s (v1,v2,v3)).bind fun r69=>some (!r69.2.2)) else ((bif (eqZ f.1 1) then some (eqZ f.1 1) else some (eqZ f.1 2)).bind fun x=>ak.j1 f m s v1 v2 v3 x)) (fun b=>b=true):=by
 refine ah (fun e=>?_) fun e=>aa (Q:=fun b:Bool=>(b=true->f.1=1\/f.1=2)/\(b=false->f.1≠1/\f.1≠2)) ?_ fun x hb=>?_
 ·have e:=dW e;obtain⟨rfl,hv⟩:=hx.1 e;rw[hv];exact aa (DV hl fun g hg hh=>hno g hg (by rw[Ph hh.1,Ph e,hh.2.1,hh.2.2])) fun r hr=>ae (by rw[hr]; rfl)
 ·exact ah (fun e1=>ae ⟨fun _=>.inl (dW e1),fun e'=>by rw[e1] at e'; cases e'⟩) fun e1=>ae ⟨fun e'=>.inr (dW e'),fun e'=>⟨kD e1,kD e'⟩⟩
 ·have e:=kD e;obtain⟨rfl,hv⟩:=hx.2 e;unfold ak.j1;rw[hv];refine ah (fun e1=>?_) fun e1=>ah (fun e2=>?_) fun e2=>ah (fun e3=>?_) fun e3=>?_
  ·have e1:=hb.1 e1;refine aa (Q:=fun b:Bool=>b=false) ?_ fun b hb=>ae (by rw[hb]; rfl);unfold jO;refine aa (Fl hl fun g hg hh=>hno g hg (by rw[Pj hh.1,Pj e1,hh.2.1,hh.2.2])) fun r hr=>?_;rw[hr];exact ae rfl
  ·have e2:=dW e2;exact aa (DW hl fun g hg hh=>hno g hg (by rw[Pk hh.1,Pk e2,hh.2])) fun r hr=>ae (by rw[hr]; rfl)
  ·have e3:=dW e3;refine aa (Q:=fun b:Int×Bool=>b.2=false) ?_ fun b hb=>ae (by rw[hb]; rfl);unfold je;exact aa (Fl hl fun g hg hh=>hno g hg (by rw[Pm (hh.1.elim id id),Pm e3,hh.2.1,hh.2.2])) fun r hr=>ae hr
  ·have e1:=hb.2 e1;have e2:=kD e2;have e3:=kD e3;exact aa (JU hl fun g hg hh=>hno g hg (by rw[Pn (by omega),Pn (by omega),hh.2])) fun r hr=>ae (by rw[hr]; rfl)
theorem DX {f:bX} (hf:mS f) {T:Bs×Int} (hT:dj f=some T) (hq:JR f T) {n:Int} (h0:0<=n) (h1:n<=10) {s:da} {E:List ew} {M:RM} (hR:Ring E M) (hE:E.length<=1) (hv:bK s E M=some true) (hs:s.1=3) (ht:s.2.1=clB (2,n,0,dN f)) (ents:List Bs) (F:List (Bs×Int)) :
  Has (ak.j3 f n true 3 0 (-1) [] [] [] [] (s,0,3,false,0,0,E,M,ents,F) true) (fun b=>b=true):=by
 have hk:=pE f hf;obtain⟨am,ham⟩:=zT hs hv ht h0 (by omega) (by omega);have hcon:∀ m:Int,0<=m->m<=199999->T.2=0->bp (2,n,0,dN f) (0,m,0,T.1)=some (decide (m<n)):=fun m m0 m1 hz=>by
  rcases hq with⟨q1,q2,⟨t,q3⟩,q4⟩ | ⟨q1,q2⟩
  ·exact GS q3 (zR f) (by omega) q4 h0 (by omega) m0 m1
  ·exact absurd hz q1
 unfold ak.j3;refine aa (Q:=fun x=>∃ E' M',x=(false,3,0,-1,E',M',[s],[((2,n,0,dN f):eY)],[],am)/\Ring E' M'/\E'.length<=5) ?_ fun x hx=>?_
 ·dsimp only;rw[ham,aA];refine ah (fun e=>by cases e) fun _=>ah (fun e=>?_) fun _=>ae ⟨E,M,rfl,hR,by omega⟩;have e:=eT e;refine aa (bD (by omega) (by omega)) fun j hj=>?_;subst hj;rw[idF];obtain⟨s2,E2,M2,a1,a2,a3,a4,a5,a6⟩:=yz hf hT hq hR (by omega) (show 0<=n-1 by omega) (by omega);dsimp only;rw[a1,aA];dsimp only;rcases a6 with⟨z,ab⟩ | ⟨z,c,ab⟩
  ·rw[zU a5 a4 ab (by rw[hcon _ (by omega) (by omega) z,decide_eq_true (by omega)]),aA,Ca hT,if_pos z,aA];exact ae ⟨E2,M2,rfl,a2,by omega⟩
  ·rw[tW a5 a4 ab,aA,Ca hT,if_neg z,aA];exact ae ⟨E2,M2,rfl,a2,by omega⟩
 ·obtain⟨E',M',rfl,hR',hE'⟩:=hx;unfold ak.j2;rw[idF];dsimp only;obtain⟨s2,E2,M2,a1,a2,a3,a4,a5,a6⟩:=yz hf hT hq hR' (by omega) h0 (by omega);rw[cond_false,cond_true,cond_true,a1,aA];dsimp only;rcases a6 with⟨z,ab⟩ | ⟨z,c,ab⟩
  ·refine aa (GV a5 a4 ab (by rw[hcon _ (by omega) (by omega) z,decide_eq_false (by omega)]) rfl) fun a ha=>?_;rw[Cb hT,if_pos z,aA,ha];exact ae rfl
  ·rw[tW a5 a4 ab,aA,Cb hT,if_neg z,aA];exact ae rfl
theorem Cd (l:List bX) (f:bX) (n:Int):ak l f n=some true:=by
 have key:Has (ak l f n) (fun b=>b=true):=by
  unfold ak;rw[alive,aA,idF];refine aa (Q:=fun b:Bool=>b=false->(l.length<=10/\∀ g∈l,mS g)/\mS f/\bV f=some true/\0<=n) ?_ fun x hx=>?_
  ·refine aa (Ff l 10 (by omega)) fun a ha=>ah (fun _=>ae (fun h=>by cases h)) fun e1=>aa (Ff [f] 1 (by omega)) fun b hb=>ah (fun _=>ae (fun h=>by cases h)) fun e2=>?_;have ha:=ha (by simpa using e1);have hb:=hb (by simpa using e2);have hf:mS f:=hb.2 f (List.mem_singleton.2 rfl);obtain⟨r,hr,_⟩:=qf f hf;rw[hr,aA];refine ah (fun _=>ae (fun h=>by cases h)) fun e3=>ae fun e4=>⟨ha,hf,?_,dx e4⟩;rw[show r=true by simpa using e3]
  ·unfold ak.j8;refine ah (fun _=>ae rfl) fun e=>?_;obtain⟨⟨hl,hfew⟩,hf,hr,hn⟩:=hx e;show Has (ak.j7 l f n true ([],[]) (0,3,false,0,0,[],[]) (3,0,-1,[],[],[],[]) false) _;unfold ak.j7;rw[cond_false];refine aa (Mf l hl hfew) fun y hy=>?_;obtain⟨log,ents,F,rfl,hlog,hok⟩:=hy;show Has (ak.j6 f n true log 3 false 0 0 3 0 (-1) [] [] ents F [] [] [] []) _;unfold ak.j6;refine aa (ae (Q:=fun k:Int=>k=(ents.length:Int)) rfl) fun k hk=>?_;subst hk;rw[hok.len,fE,decide_eq_true rfl];refine ah (fun e=>by cases e) fun _=>ah (fun _=>ae rfl) fun e=>?_;have hnl:=dx e;refine aa (GX hf hr hok hlog hn hnl) fun b hb=>?_;subst hb;unfold ak.j5;rw[idF];refine aa (uE f hf hr) fun k hk=>?_;subst hk;obtain⟨ab1,ab2⟩:=GY hf hok hlog hn hnl;by_cases hm:dN f∈(log.map dN).take n.toNat
   ·rw[ab1 hm,aA,decide_eq_true hm];exact ae rfl
   ·obtain⟨s,E,M,a1,a2,a3,a4,a5,a6⟩:=ab2 hm;rw[a1,aA,decide_eq_false hm];refine ah (fun e=>by cases e) fun _=>?_;rw[cond_false];refine aa (zA (by omega) hn hnl) fun m hmm=>?_;have hmt:m=log.take n.toNat:=by rw[hmm.1]; rfl
    have hno:∀ g∈m,dN g≠dN f:=fun g hg he=>hm (by
     rw[← List.map_take,← hmt,← he];exact List.mem_map.2 ⟨g,hg,rfl⟩)
    have hml:m.length<=1000:=by rw[hmt,List.length_take]; omega
    have hsays:Pf f:=by
     obtain⟨b,hb,hq⟩:=qf f hf;rw[hr] at hb;exact hq (Option.some.inj hb).symm
    have hkind:0<=f.1/\f.1<=7:=by
     rcases hsays.1 with h | h | h | h
     ·omega
     ·omega
     ·omega
     ·omega
    refine aa (Q:=fun x:Bs×Int×Int×Int=>(f.1=0->x.1=f.2.2.2.1.1/\(x.2.1,x.2.2.1,x.2.2.2)=f.2.2.2.1.2.1)/\(f.1≠0->x.1=f.2.1/\(x.2.1,x.2.2.1,x.2.2.2)=f.2.2.1)) ?_ fun x hx=>?_
    ·exact ah (fun e=>ae ⟨fun _=>⟨rfl,rfl⟩,fun h=>absurd (dW e) h⟩) fun e=>ae ⟨fun h=>absurd h (kD e),fun _=>⟨rfl,rfl⟩⟩
    ·unfold ak.j4;refine aa (Cc hml hno hkind hx) fun ok hok'=>?_;subst hok';obtain⟨T,hT,hq⟩:=B5 f hf;exact DX hf hT hq hn (by omega) a2 a3 a4 a5 a6 ents F
 obtain⟨b,hb,rfl⟩:=key;exact hb
end Go.Proofs.YtkpefpjpadahiaaGreatDoor
