import Derived.Test.YtcppfkflcigjcaaGreatDoorFB
import Derived.Deep.LoopGhost
import Derived.Scope
import Derived.Lib.ConvBytes
import Derived.Laws.AppendOwn
import Derived.Laws.MakeOwn
import Derived.Laws.BytesArg
import Derived.Laws.StructEq
set_option linter.unusedVariables false
set_option linter.unusedSimpArgs false
set_option linter.unusedSectionVars false
namespace Go.Lad
open Go.RowKit
theorem Rd.of_flat {F F':Nat->Prop} {w w':World} {p:PV} {v:Value} (h:Rd F w p v) (hf:p.flat=true):Rd F' w' p v:=by
 cases h with
 | int h=>exact .int h
 | bool=>exact .bool
 | str h=>exact .str h
 | oth h=>exact .oth h
 | sl0 h hm=>cases hf
 | sl us h0 hF hb hc hm hz hcell hrd=>cases hf
 | mp mv _ _ _ _=>cases hf
theorem kO (hp:Hp):∀ (l:List (Nat×cu)) (j:Nat),hp j≠none->eJ hp l j≠none
 | [],j,h=>h
 | x::l,j,h=>kO (upd hp x.1 (some x.2)) l j (by
   by_cases e:j=x.1
   ·rw[e]; simp [upd]
   ·simp [upd,e]; exact h)
theorem Cn (hp:Hp):∀ (l:List (Nat×cu)) (j:Nat),(∃ h,(j,h)∈l)->eJ hp l j≠none
 | [],j,⟨h,e⟩=>by cases e
 | x::l,j,⟨h,e⟩=>by
  rcases List.mem_cons.1 e with e | e
  ·exact kO _ l j (by rw[← e]; simp [upd])
  ·exact Cn _ l j ⟨h,e⟩
theorem Own.oR {z k k':Nat} {χ χ':Col} {e:TypeId} {w:World} {v:Value} {l:List (List PV)} (h:Own (α:=CZ z) k χ e w v l) (hc:∀ g,v.ownBlock=some g->g<w.heap.size->χ g=k->χ' g=k')
  (hf:(∀ b,b<w.heap.size->χ b=0->χ' b=0)\/(∀ row∈l,∀ p∈row,p.flat=true)):Own (α:=CZ z) k' χ' e w v l:=by
 obtain⟨⟨xs,h1,h2⟩,h3⟩:=h;refine⟨⟨xs,h1,fun i x hx=>?_⟩,fun g hg=>hc g hg (h1.lt g hg).2 (h3 g hg)⟩;obtain⟨q1,q2,q3⟩:=h2 i x hx;refine⟨q1,q2,fun j p u hp hu=>?_⟩;rcases hf with hf | hf
 ·exact Rd.frame (fun b hb hl=>⟨hf b hl hb,rfl⟩) (q3 j p u hp hu)
 ·exact Rd.of_flat (q3 j p u hp hu) (hf x (List.mem_of_getElem? hx) p (List.mem_of_getElem? hp))
def ae {α:Type}:List (Nat×α)->Nat->Option α
 | [],_=>none
 | x::r,k=>if k=x.1 then some x.2 else ae r k
theorem cx {α:Type}:∀ {l:List (Nat×α)} {k:Nat} {v:α},ae l k=some v->(k,v)∈l
 | [],_,_,h=>by cases h
 | x::r,k,v,h=>by
  unfold ae at h;split at h
  ·rename_i e;injection h with h
   subst h e;exact List.mem_cons_self
  ·exact List.mem_cons_of_mem _ (cx h)
def oy (tms:List (Nat×Slot)) (hps:List (Nat×cu)):St:={ tm:=fun t=>(ae tms t).getD .dead,hp:=fun o=>ae hps o }
structure Ren where
 m:List (Nat×Nat)
 v:Option (List Nat):=none
 pin:Bool:=true
def Ren.nodup (σ:Ren):Prop:=(σ.m.map (·.1)).Nodup/\(σ.m.map (·.2)).Nodup
def Ren.may (σ:Ren) (o:Nat):Prop:=match σ.v with | none=>True | some l=>o∈l
def Ren.low (σ:Ren) (o:Nat):Prop:=σ.pin=true->o<1000000
def sn (σ:Ren) (hps:List (Nat×cu)):List Nat->List Nat->Prop
 | [],[]=>True
 | x::xs,y::ys=>((x,y)∈σ.m/\ae hps y≠none)/\sn σ hps xs ys
 | _,_=>False
def lW (σ:Ren) (s:St):av->PV->Prop
 | .p a,b=>a=b
 | .nil,.sl l=>l=[]
 | .own o,.sl l=>(match s.hp o with | some (.arr _ _ l2)=>l2=l | _=>False)/\o∉σ.m.map (·.1)/\σ.may o
 | .mp o,.mp k m=>(match s.hp o with | some (.gI k2 _ _ m2 none)=>k2=k/\m2=m | _=>False)/\o∉σ.m.map (·.1)/\σ.may o
 | _,_=>False
def mi (σ:Ren) (s:St):List av->List PV->Prop
 | [],[]=>True
 | x::xs,y::ys=>lW σ s x y/\mi σ s xs ys
 | _,_=>False
def xi (σ:Ren) (s:St):List av->List (List PV)->Prop
 | [],[]=>True
 | x::xs,y::ys=>(match y with | [p]=>lW σ s x p | _=>False)/\xi σ s xs ys
 | _,_=>False
def pW (σ:Ren) (s:St) (hps:List (Nat×cu)):av->av->Prop
 | _,.dead=>True
 | .p a,.p b=>a=b
 | .nil,.nil=>True
 | .nil,.p (.sl l)=>l=[]
 | .own o,.p (.sl l)=>(match s.hp o with | some (.arr _ _ l2)=>l2=l | some (.lit _ cs)=>xi σ s cs l | _=>False)/\o∉σ.m.map (·.1)/\σ.may o
 | .sv o a b z,.p (.sl l)=>0<z/\(match s.hp o with | some (.arr _ z' l2)=>z=z'/\b<=l2.length/\(l2.take b).drop a=l | _=>False)/\o∉σ.m.map (·.1)/\σ.may o
 | .own o,.own o2=>(o,o2)∈σ.m/\ae hps o2≠none
 | .sv o a b z,.sv o2 a2 b2 z2=>((o,o2)∈σ.m/\ae hps o2≠none)/\a=a2/\b=b2/\z=z2
 | .nil,.own o2=>o2∉σ.m.map (·.2)/\ae hps o2≠none/\σ.low o2
 | .loc o f,.loc o2 f2=>((o,o2)∈σ.m/\ae hps o2≠none)/\f=f2
 | .el o i f z,.el o2 i2 f2 z2=>((o,o2)∈σ.m/\ae hps o2≠none)/\i=i2/\f=f2/\z=z2
 | .ip c f,.ip c2 f2=>c=c2/\f=f2
 | .fn f caps,.fn f2 caps2=>f=f2/\sn σ hps caps caps2
 | .mp o,.mp o2=>(o,o2)∈σ.m/\ae hps o2≠none
 | .nb p l,.nb p2 l2=>p=p2/\l=l2
 | .ps o,.ps o2=>(o,o2)∈σ.m/\ae hps o2≠none
 | .loc o f,.ps o2=>((o,o2)∈σ.m/\ae hps o2≠none)/\f=0
 | .p (.oth (.pointer none)),.ps o2=>ae hps o2≠none
 | .tl l,.tl l2=>l=l2
 | .tl l,.p (.sl l2)=>l=l2
 | .mp o,.p (.mp k m)=>lW σ s (.mp o) (.mp k m)
 | .loc o f,.ip cs f2=>f=f2/\(match s.hp o with | some (.box _ xs)=>mi σ s xs cs | _=>False)/\o∉σ.m.map (·.1)/\σ.may o
 | _,_=>False
def lX (σ:Ren) (s:St) (hps:List (Nat×cu)):List av->List av->Prop
 | [],[]=>True
 | x::xs,y::ys=>pW σ s hps x y/\lX σ s hps xs ys
 | _,_=>False
def uW (σ:Ren) (s:St) (hps:List (Nat×cu)):Cmp->Cmp->Prop
 | .v x,.v y=>pW σ s hps x y
 | .g xs,.g ys=>lX σ s hps xs ys
 | _,_=>False
def s7 (σ:Ren) (s:St) (hps:List (Nat×cu)):List Cmp->List Cmp->Prop
 | [],[]=>True
 | x::xs,y::ys=>uW σ s hps x y/\s7 σ s hps xs ys
 | _,_=>False
def rC (σ:Ren) (s:St) (hps:List (Nat×cu)):Slot->Slot->Prop
 | _,.dead=>True
 | .c x,.c y=>uW σ s hps x y
 | .t xs,.t ys=>s7 σ s hps xs ys
 | _,_=>False
def AZ (σ:Ren) (s:St) (hps:List (Nat×cu)):Option cu->cu->Prop
 | _,.gone=>True
 | some (.box t cs),.box t2 cs2=>t=t2/\lX σ s hps cs cs2
 | some (.arr e z l),.arr e2 z2 l2=>e=e2/\z=z2/\l=l2
 | some (.kx k g m),.kx k2 g2 m2=>k=k2/\g=g2/\m=m2
 | some (.iJ g m),.iJ g2 m2=>g=g2/\m=m2
 | some (.fM k g m),.fM k2 g2 m2=>k=k2/\g=g2/\m=m2
 | some (.sU k g m key d),.sU k2 g2 m2 key2 d2=>k=k2/\g=g2/\m=m2/\key=key2/\(d,d2)∈σ.m/\ae hps d2≠none
 | some (.gI k e z m h),.gI k2 e2 z2 m2 h2=>k=k2/\e=e2/\z=z2/\m=m2/\h=h2
 | some (.lit e cs),.lit e2 cs2=>e=e2/\lX σ s hps cs cs2
 | _,_=>False
def Co:cu->Prop
 | .arr _ _ l=>l=[]
 | _=>False
def HSub (σ:Ren) (s:St) (hps:List (Nat×cu)) (q:Nat×cu):Prop :=
 match ae (σ.m.map fun x=>(x.2,x.1)) q.1 with
 | some o=>AZ σ s hps (s.hp o) q.2
 | none=>(Co q.2/\σ.low q.1)\/q.2 = .gone
def pK {α:Type} (p:α->Prop):List α->Prop
 | []=>True
 | x::r=>p x/\pK p r
theorem fP {α:Type} {p:α->Prop}:∀ {l:List α},pK p l->∀ x∈l,p x
 | [],_,x,hx=>by cases hx
 | y::l,h,x,hx=>by
  rcases List.mem_cons.1 hx with rfl | hx
  ·exact h.1
  ·exact fP h.2 x hx
def Sub (σ:Ren) (s:St) (tms:List (Nat×Slot)) (hps:List (Nat×cu)):Prop :=
 (σ.nodup/\σ.v=none/\σ.pin=true/\pK (fun x=>1000000<=x.2->x.1=x.2) σ.m)/\pK (fun p=>rC σ s hps (s.tm p.1) p.2) tms/\pK (HSub σ s hps) hps
section
variable {P:Program} {s:St} {w0:World} {χ0:Col} {T0:Ctx} {n:Nat} {a:Act} {w:World} {G:Gh} {σ:Ren} {tms:List (Nat×Slot)} {hps:List (Nat×cu)}
theorem dh {α:Type}:∀ {l:List (Nat×α)} {k:Nat} {v:α},(l.map (·.1)).Nodup->(k,v)∈l->ae l k=some v
 | [],_,_,_,h=>by cases h
 | x::r,k,v,hn,h=>by
  rw[List.map_cons,List.nodup_cons] at hn;unfold ae;rcases List.mem_cons.1 h with h | h
  ·rw[← h]; simp
  ·rw[if_neg,dh hn.2 h];intro e;exact hn.1 (List.mem_map.2 ⟨(k,v),h,e⟩)
theorem oS {α:Type}:∀ {l:List (Nat×α)} {k:Nat},k∉l.map (·.1)->ae l k=none
 | [],_,_=>rfl
 | x::r,k,h=>by
  unfold ae;rw[List.map_cons,List.mem_cons,not_or] at h;rw[if_neg h.1,oS h.2]
def dR (σ : Ren) (G : Gh) : Gh :=
  { χ := fun b => if G.χ b<=1 then G.χ b else match ae σ.m (G.χ b-2) with | some o2 => o2+2 | none => (match σ.v with | none => 0 | some l => if G.χ b-2∈l then 0 else 1),
    bl := fun o2 => match ae (σ.m.map fun x => (x.2, x.1)) o2 with | some o => G.bl o | none => if σ.pin=true/\1000000<=o2 then G.bl o2 else 0,
    hv := fun o2 => match ae (σ.m.map fun x => (x.2, x.1)) o2 with | some o => G.hv o | none => if σ.pin=true/\1000000<=o2 then G.hv o2 else .slice none 0 0 }
theorem ky {b:Nat} (h:G.χ b=0):(dR σ G).χ b=0:=by
 show (if G.χ b<=1 then G.χ b else _)=0;rw[if_pos (by omega)]; exact h
theorem rD (hσ:σ.nodup) {o o2:Nat} (h:(o,o2)∈σ.m):ae σ.m o=some o2/\ae (σ.m.map fun x=>(x.2,x.1)) o2=some o:=by
 refine⟨dh hσ.1 h,dh ?_ (List.mem_map.2 ⟨(o,o2),h,rfl⟩)⟩;rw[List.map_map]; exact hσ.2
theorem oz (hσ:σ.nodup) {o o2 b:Nat} (h:(o,o2)∈σ.m) (hb:G.χ b=o+2):(dR σ G).χ b=o2+2:=by
 show (if G.χ b<=1 then G.χ b else match ae σ.m (G.χ b-2) with | some o2=>o2+2 | none=>(match σ.v with | none=>0 | some l=>if G.χ b-2∈l then 0 else 1))=o2+2;rw[if_neg (by omega),hb,Nat.add_sub_cancel,(rD hσ h).1]
theorem iA (hσ:σ.nodup) {o o2:Nat} (h:(o,o2)∈σ.m):(dR σ G).bl o2=G.bl o:=by
 show (match ae (σ.m.map fun x=>(x.2,x.1)) o2 with | some o=>G.bl o | none=>_)=_;rw[(rD hσ h).2]
theorem rE (hσ:σ.nodup) {o o2:Nat} (h:(o,o2)∈σ.m):(dR σ G).hv o2=G.hv o:=by
 show (match ae (σ.m.map fun x=>(x.2,x.1)) o2 with | some o=>G.hv o | none=>_)=_;rw[(rD hσ h).2]
theorem F3 {o2:Nat} (h:o2∉σ.m.map (·.2)) (hl:σ.low o2):(dR σ G).hv o2 = .slice none 0 0:=by
 show (match ae (σ.m.map fun x=>(x.2,x.1)) o2 with | some o=>G.hv o | none=>if σ.pin=true/\1000000<=o2 then G.hv o2 else .slice none 0 0)=_;rw[oS (by rw[List.map_map]; exact h)];exact if_neg fun hc=>by have:=hl hc.1; omega
theorem so {o b:Nat} (ho:o∉σ.m.map (·.1)) (hm:σ.may o) (hb:G.χ b=o+2):(dR σ G).χ b=0:=by
 show (if G.χ b<=1 then G.χ b else match ae σ.m (G.χ b-2) with | some o2=>o2+2 | none=>(match σ.v with | none=>0 | some l=>if G.χ b-2∈l then 0 else 1))=0;rw[if_neg (by omega),hb,Nat.add_sub_cancel,oS ho];unfold Ren.may at hm;cases hv:σ.v with
 | none=>rfl
 | some l=>rw[hv] at hm; exact if_pos hm
theorem Ew {b:Nat} (h:2<=(dR σ G).χ b):2<=G.χ b/\ae σ.m (G.χ b-2)≠none:=by
 have h:2<=(if G.χ b<=1 then G.χ b else match ae σ.m (G.χ b-2) with | some o2=>o2+2 | none=>(match σ.v with | none=>0 | some l=>if G.χ b-2∈l then 0 else 1)):=h;split at h
 ·omega
 ·refine⟨by omega,fun hn=>?_⟩;rw[hn] at h;dsimp only at h;split at h
  ·omega
  ·split at h <;> omega
theorem pX:∀ b,In G.χ 0 b->b<w.heap.size->In (dR σ G).χ 0 b/\w.heap[b]?=w.heap[b]? := fun b hb _=>⟨ky hb,rfl⟩
theorem xj (hσ:σ.nodup):∀ {xs ys:List Nat},sn σ hps xs ys->(∀ o∈ys,ae hps o≠none)/\xs.map (fun o=>ptr (G.bl o) 0)=ys.map (fun o=>ptr ((dR σ G).bl o) 0)
 | [],[],_=>⟨by simp,rfl⟩
 | [],_::_,h=>h.elim
 | _::_,[],h=>h.elim
 | x::xs,y::ys,h=>by
  have ih:=xj hσ h.2;refine⟨fun o ho=>?_,?_⟩
  ·rcases List.mem_cons.1 ho with rfl | ho
   ·exact h.1.2
   ·exact ih.1 o ho
  ·rw[List.map_cons,List.map_cons,ih.2,iA hσ h.1.1]
theorem Ex {k z:Nat} {χ:Col} {e:TypeId} {v:Value} {l:List (List PV)} (hown:Own (α:=CZ z) k χ e w v l):Rd (fun b=>χ b=k\/χ b=0) w (.sl l) v:=by
 obtain⟨A,c,hv,hs⟩:=hown.sl;rw[hv];refine Rd.zw hs (.inr fun b off hA=>?_);obtain⟨⟨xs,h1,_⟩,h3⟩:=hown;rcases h1.2 with⟨h4,_⟩ | ⟨g,cap,cur,off',h4,_,hgg,_⟩
 ·rw[hv] at h4;injection h4 with h4
  rw[hA] at h4; cases h4
 ·have h5:=h3 g (by rw[h4]; rfl);rw[hv] at h4;injection h4 with h4
  rw[hA] at h4;injection h4 with h4
  injection h4 with h4
  subst h4;exact⟨.inl h5,hgg.lt⟩
theorem Qv {k z a b c n:Nat} {A:Option Addr} {χ:Col} {e:TypeId} {l:List (List PV)} (hz:0<z) (hown:Own (α:=CZ z) k χ e w (.slice A n c) l) (hab:a<=b) (hb:b<=l.length):Rd (fun b=>χ b=k\/χ b=0) w (.sl ((l.take b).drop a)) (svV A c a b z):=by
 obtain⟨A',c',hv,hs⟩:=hown.sl;injection hv with e1 e2 e3
 subst e1 e3;exact Rd.zw ((hs.take (k:=b) hb).drop (k:=a) hab) (.inl hz)
theorem F4 {o:Nat} {e:TypeId} {z:Nat} {l:List (List PV)} {v:Value} (hno:o∉σ.m.map (·.1)) (hmay:σ.may o) (h:Own (α:=CZ z) (o+2) G.χ e w v l):Rd (In (dR σ G).χ 0) w (.sl l) v:=by
 refine Rd.frame (fun b hb _=>⟨?_,rfl⟩) (Ex h);rcases hb with hb | hb
 ·exact so hno hmay hb
 ·exact ky hb
theorem xk {x:av} {p:PV} {v:Value} (ho:∀ o h,s.hp o=some h->HRd G s.hp w o h) (h:LRd G s.hp w x v) (hs:lW σ s x p):Rd (In (dR σ G).χ 0) w p v:=by
 have hv:=h.val;unfold lW at hs;split at hs
 ·subst hs; exact Rd.frame pX hv
 ·subst hs;rw[show v = .slice none 0 0 from hv];exact Rd.sl0 (fun _=>rfl) (by omega)
 ·rename_i o l;obtain⟨ho',hno,hmay⟩:=hs;split at ho'
  ·rename_i e z l2 heq;subst ho';rw[show v=G.hv o from hv];exact F4 hno hmay (ho o _ heq).1
  ·exact ho'.elim
 ·rename_i o k m;obtain⟨ho',hno,hmay⟩:=hs;split at ho'
  ·rename_i k2 e z m2 heq;obtain⟨rfl,rfl⟩:=ho';obtain⟨es,clock,mv,h1,h2,h3,h4,h5⟩:=ho o _ heq;rw[show v = .map (some (G.bl o)) from hv];exact .mp mv (so hno hmay h2) h1 h3 fun i x y hx hy=>F4 hno hmay (h4 i x y hx hy (by simp))
  ·exact ho'.elim
 ·exact hs.elim
theorem zG (ho:∀ o h,s.hp o=some h->HRd G s.hp w o h):∀ {xs:List av} {cs:List PV} {vs:List Value},dU (LRd G s.hp w) xs vs->mi σ s xs cs->∀ (j:Nat) p,cs[j]?=some p->∃ u,vs[j]?=some u/\Rd (In (dR σ G).χ 0) w p u
 | [],[],vs,h,_,j,p,hp=>by simp at hp
 | [],_::_,_,_,h,_,_,_=>h.elim
 | _::_,[],_,_,h,_,_,_=>h.elim
 | x::xs,y::ys,vs,h,hs,j,p,hp=>by
  cases vs with
  | nil=>have:=h.1; simp at this
  | cons v vs =>
   cases j with
   | zero=>simp at hp; subst hp; exact⟨v,rfl,xk ho (h.2 0 _ _ rfl rfl) hs.1⟩
   | succ j=>exact zG ho (xs:=xs) (cs:=ys) (vs:=vs) ⟨by have:=h.1; simpa using this,fun i a b ha hb=>h.2 (i+1) a b (by simpa using ha) (by simpa using hb)⟩ hs.2 j p (by simpa using hp)
theorem Cp:∀ {xs:List av} {l:List (List PV)},xi σ s xs l->xs.length=l.length
 | [],[],_=>rfl
 | [],_::_,h=>h.elim
 | _::_,[],h=>h.elim
 | _::xs,_::l,h=>by rw[List.length_cons,List.length_cons,Cp h.2]
theorem F5 (ho:∀ o h,s.hp o=some h->HRd G s.hp w o h):∀ {xs:List av} {l:List (List PV)} {vs:List Value},dU (LRd G s.hp w) xs vs->xi σ s xs l->∀ (j:Nat) row,l[j]?=some row->∃ u,vs[j]?=some u/\u.oneCell'=true/\∃ p,row=[p]/\Rd (In (dR σ G).χ 0) w p u
 | [],[],vs,h,_,j,p,hp=>by simp at hp
 | [],_::_,_,_,h,_,_,_=>h.elim
 | _::_,[],_,_,h,_,_,_=>h.elim
 | x::xs,y::ys,vs,h,hs,j,p,hp=>by
  cases vs with
  | nil=>have:=h.1; simp at this
  | cons v vs =>
   cases j with
   | zero =>
    simp at hp; subst hp
    obtain⟨h1,_⟩:=hs;split at h1
    ·have hx:=h.2 0 _ _ rfl rfl;exact⟨v,rfl,hx.one,_,rfl,xk ho hx h1⟩
    ·exact h1.elim
   | succ j=>exact F5 ho (xs:=xs) (l:=ys) (vs:=vs) ⟨by have:=h.1; simpa using this,fun i a b ha hb=>h.2 (i+1) a b (by simpa using ha) (by simpa using hb)⟩ hs.2 j p (by simpa using hp)
theorem Pm {o:Nat} {e:TypeId} {cs:List av} {l:List (List PV)} (ho:∀ o h,s.hp o=some h->HRd G s.hp w o h) (hb:s.hp o=some (.lit e cs)) (hl:xi σ s cs l) (hno:o∉σ.m.map (·.1)) (hmay:σ.may o):Rd (In (dR σ G).χ 0) w (.sl l) (G.hv o):=by
 obtain⟨vs,h1,h2,h3,h4,h5⟩:=ho o _ hb;have hlen:=Cp hl;rw[h4,hlen];have hcol:=so hno hmay h2;refine Rd.zw (z:=1) ⟨rfl,Nat.le_refl _,by first | omega | (simp only[maxLen]; omega) | (unfold maxLen; omega),by simp,fun hpos=>⟨G.bl o,0,rfl,fun i row hi=>?_⟩⟩ (.inl (by omega));obtain⟨u,hu,hone,p,rfl,hr⟩:=F5 ho h3 hl i row hi;refine⟨[u],⟨rfl,?_⟩,fun j v hv=>?_⟩
 ·refine⟨by simp,fun j q v h6 h7=>?_⟩;cases j with
  | zero=>simp at h6 h7; subst h6 h7; exact hr
  | succ j=>simp at h6
 ·cases j with
  | zero =>
   simp at hv;subst hv;refine⟨hcol,?_⟩;have h8:w.cell? ⟨G.bl o,0+(i * 1+0),none⟩=some u:=by
    rw[Nat.zero_add,Nat.add_zero,Nat.mul_one,h1.cell]; simpa using hu
   simpa [aA.sz] using h8
  | succ j=>simp at hv
theorem F6 {x y:av} {v:Value} (hσ:σ.nodup) (ho:∀ o h,s.hp o=some h->HRd G s.hp w o h) (h:LRd G s.hp w x v) (hs:pW σ s hps x y):LRd (dR σ G) (fun o=>ae hps o) w y v:=by
 have hv:=h.val;unfold pW at hs;split at hs
 ·exact⟨h.one,by simp [av.ids],trivial⟩
 ·subst hs;exact⟨h.one,by simp [av.ids],Rd.frame pX hv⟩
 ·exact⟨h.one,by simp [av.ids],hv⟩
 ·subst hs;refine⟨h.one,by simp [av.ids],?_⟩;rw[show v = .slice none 0 0 from hv];exact Rd.sl0 (fun _=>rfl) (by omega)
 ·rename_i o l;obtain⟨ho',hno,hmay⟩:=hs;split at ho'
  ·rename_i e z l2 heq;subst ho';refine⟨h.one,by simp [av.ids],?_⟩;rw[show v=G.hv o from hv];refine Rd.frame (fun b hb _=>⟨?_,rfl⟩) (Ex (ho o _ heq).1);rcases hb with hb | hb
   ·exact so hno hmay hb
   ·exact ky hb
  ·rename_i e cs heq;refine⟨h.one,by simp [av.ids],?_⟩;rw[show v=G.hv o from hv];exact Pm ho heq ho' hno hmay
  ·exact ho'.elim
 ·rename_i o a b z l;obtain⟨hzp,ho',hno,hmay⟩:=hs;split at ho'
  ·rename_i e z' l2 heq;obtain⟨rfl,hbl,rfl⟩:=ho';refine⟨h.one,by simp [av.ids],?_⟩;obtain⟨A,n,c,h1,h2,h3,h4,h5⟩:=hv;have hown:=(ho o _ heq).1;have hfr:∀ b,(G.χ b=o+2\/G.χ b=0)->b<w.heap.size->In (dR σ G).χ 0 b/\w.heap[b]?=w.heap[b]? := fun b hb _=>⟨by
    rcases hb with hb | hb
    ·exact so hno hmay hb
    ·exact ky hb,rfl⟩
   rw[h1] at hown;rw[h5];exact Rd.frame hfr (Qv hzp hown h2 hbl)
  ·exact ho'.elim
 ·rename_i o o2;refine⟨h.one,fun j hj=>?_,?_⟩
  ·simp [av.ids] at hj; subst hj; exact hs.2
  ·show v=(dR σ G).hv o2;rw[rE hσ hs.1]; exact hv
 ·rename_i o a b z o2 a2 b2 z2;obtain⟨⟨g1,g2⟩,rfl,rfl,rfl⟩:=hs;refine⟨h.one,fun j hj=>?_,?_⟩
  ·simp [av.ids] at hj; subst hj; exact g2
  ·obtain⟨A,n,c,h1,h2⟩:=hv;exact⟨A,n,c,by rw[rE hσ g1]; exact h1,h2⟩
 ·rename_i o2;refine⟨h.one,fun j hj=>?_,?_⟩
  ·simp [av.ids] at hj; subst hj; exact hs.2.1
  ·show v=(dR σ G).hv o2;rw[F3 hs.1 hs.2.2]; exact hv
 ·rename_i o f o2 f2;obtain⟨⟨h1,h2⟩,rfl⟩:=hs;refine⟨h.one,fun j hj=>?_,?_⟩
  ·simp [av.ids] at hj; subst hj; exact h2
  ·show v=ptr ((dR σ G).bl o2) f;rw[iA hσ h1]; exact hv
 ·rename_i o i f z o2 i2 f2 z2;obtain⟨⟨h1,h2⟩,rfl,rfl,rfl⟩:=hs;refine⟨h.one,fun j hj=>?_,?_⟩
  ·simp [av.ids] at hj; subst hj; exact h2
  ·show v=ptr ((dR σ G).bl o2) (lB ((dR σ G).hv o2)+_);rw[iA hσ h1,rE hσ h1]; exact hv
 ·obtain⟨rfl,rfl⟩:=hs;obtain⟨b,off0,h1,h2,h3,h4⟩:=hv;exact⟨h.one,by simp [av.ids],b,off0,h1,ky h2,h3,fun j p hj=>by
   obtain⟨u,hu,hr⟩:=h4 j p hj;exact⟨u,hu,Rd.frame pX hr⟩⟩
 ·obtain⟨rfl,hcs⟩:=hs;obtain⟨h1,h2⟩:=xj (G:=G) hσ hcs;refine⟨h.one,h1,?_⟩;have hv':v=_:=hv;rw[LVal,hv',h2]
 ·rename_i o o2;refine⟨h.one,fun j hj=>?_,?_⟩
  ·simp [av.ids] at hj; subst hj; exact hs.2
  ·show v = .map (some ((dR σ G).bl o2));rw[iA hσ hs.1]; exact hv
 ·obtain⟨rfl,rfl⟩:=hs;exact⟨h.one,by simp [av.ids],hv⟩
 ·rename_i o o2;refine⟨h.one,fun j hj=>?_,?_⟩
  ·simp [av.ids] at hj; subst hj; exact hs.2
  ·show v = .pointer none\/v=ptr ((dR σ G).bl o2) 0;rw[iA hσ hs.1]; exact hv
 ·rename_i o f o2;obtain⟨⟨h1,h2⟩,rfl⟩:=hs;refine⟨h.one,fun j hj=>?_,?_⟩
  ·simp [av.ids] at hj; subst hj; exact h2
  ·show v = .pointer none\/v=ptr ((dR σ G).bl o2) 0;rw[iA hσ h1]; exact .inr hv
 ·rename_i o2;refine⟨h.one,fun j hj=>?_,?_⟩
  ·simp [av.ids] at hj; subst hj; exact hs
  ·have hv:Rd (In G.χ 0) w (.oth (.pointer none)) v:=hv;cases hv;exact .inl rfl
 ·subst hs;exact⟨h.one,by simp [av.ids],Rd.frame pX hv.1,hv.2⟩
 ·subst hs;exact⟨h.one,by simp [av.ids],Rd.frame pX hv.1⟩
 ·exact⟨h.one,by simp [av.ids],xk ho h hs⟩
 ·rename_i o f cs f2;obtain⟨rfl,hb,hno,hmay⟩:=hs;split at hb
  ·rename_i t xs heq;obtain⟨vs,h1,h2,h3⟩:=ho o _ heq;refine⟨h.one,by simp [av.ids],G.bl o,0,by rw[Nat.zero_add]; exact hv,so hno hmay h2,h1.lt,fun j p hj=>?_⟩;obtain⟨u,hu,hr⟩:=zG ho h3 hb j p hj;exact⟨u,by rw[Nat.zero_add,h1.cell]; simpa using hu,hr⟩
  ·exact hb.elim
 ·exact hs.elim
theorem tT (hσ:σ.nodup) (ho:∀ o h,s.hp o=some h->HRd G s.hp w o h):∀ {xs ys:List av} {vs:List Value},dU (LRd G s.hp w) xs vs->lX σ s hps xs ys->dU (LRd (dR σ G) (fun o=>ae hps o) w) ys vs
 | [],[],vs,h,_=>⟨by simpa using h.1,by simp⟩
 | [],_::_,_,_,h=>h.elim
 | _::_,[],_,_,h=>h.elim
 | x::xs,y::ys,vs,h,hs=>by
  cases vs with
  | nil=>have:=h.1; simp at this
  | cons v vs =>
   have ih:=tT hσ ho (xs:=xs) (ys:=ys) (vs:=vs) ⟨by have:=h.1; simpa using this,fun i a b ha hb=>h.2 (i+1) a b (by simpa using ha) (by simpa using hb)⟩ hs.2;refine⟨by simp [ih.1],fun i a b ha hb=>?_⟩;cases i with
   | zero=>simp at ha hb; subst ha hb; exact F6 hσ ho (h.2 0 _ _ rfl rfl) hs.1
   | succ i=>exact ih.2 i a b (by simpa using ha) (by simpa using hb)
theorem Ba (hσ:σ.nodup) (ho:∀ o h,s.hp o=some h->HRd G s.hp w o h) {x y:Cmp} {v:Value} (h:CRd G s.hp w x v) (hs:uW σ s hps x y):CRd (dR σ G) (fun o=>ae hps o) w y v:=by
 unfold uW at hs;split at hs
 ·exact F6 hσ ho h hs
 ·obtain⟨vs,h1,h2⟩:=h;exact⟨vs,h1,tT hσ ho h2 hs⟩
 ·exact hs.elim
theorem Cq (hσ:σ.nodup) (ho:∀ o h,s.hp o=some h->HRd G s.hp w o h):∀ {xs ys:List Cmp} {vs:List Value},dU (CRd G s.hp w) xs vs->s7 σ s hps xs ys->dU (CRd (dR σ G) (fun o=>ae hps o) w) ys vs
 | [],[],vs,h,_=>⟨by simpa using h.1,by simp⟩
 | [],_::_,_,_,h=>h.elim
 | _::_,[],_,_,h=>h.elim
 | x::xs,y::ys,vs,h,hs=>by
  cases vs with
  | nil=>have:=h.1; simp at this
  | cons v vs =>
   have ih:=Cq hσ ho (xs:=xs) (ys:=ys) (vs:=vs) ⟨by have:=h.1; simpa using this,fun i a b ha hb=>h.2 (i+1) a b (by simpa using ha) (by simpa using hb)⟩ hs.2;refine⟨by simp [ih.1],fun i a b ha hb=>?_⟩;cases i with
   | zero=>simp at ha hb; subst ha hb; exact Ba hσ ho (h.2 0 _ _ rfl rfl) hs.1
   | succ i=>exact ih.2 i a b (by simpa using ha) (by simpa using hb)
theorem F7 (hσ:σ.nodup) (ho:∀ o h,s.hp o=some h->HRd G s.hp w o h) {x y:Slot} {v:Value} (h:SRd G s.hp w x v) (hs:rC σ s hps x y):SRd (dR σ G) (fun o=>ae hps o) w y v:=by
 unfold rC at hs;split at hs
 ·trivial
 ·exact Ba hσ ho h hs
 ·obtain⟨vs,h1,h2⟩:=h;exact⟨vs,h1,Cq hσ ho h2 hs⟩
 ·exact hs.elim
theorem Bb (hσ:σ.nodup) (hr:∀ o h,s.hp o=some h->HRd G s.hp w o h) {q:Nat×cu} (hm:HSub σ s hps q):HRd (dR σ G) (fun o=>ae hps o) w q.1 q.2:=by
 obtain⟨o2,h2⟩:=q;unfold HSub at hm;split at hm
 ·rename_i o hl;have hmem:(o,o2)∈σ.m:=by
   obtain⟨x,hx,he⟩:=List.mem_map.1 (cx hl);injection he with e1 e2
   cases x; simp only at e1 e2; subst e1 e2; exact hx
  unfold AZ at hm;split at hm
  ·rename_i heq;dsimp only at heq;subst heq;trivial
  ·rename_i t cs t2 cs2 ho' heq;dsimp only at heq;subst heq;obtain⟨rfl,hcs⟩:=hm;obtain⟨vs,h1,h2,h3⟩:=hr o _ ho';show HRd (dR σ G) _ w o2 (.box t cs2);refine⟨vs,?_,?_,tT hσ hr h3 hcs⟩
   ·rw[iA hσ hmem]; exact h1
   ·rw[iA hσ hmem]; exact oz hσ hmem h2
  ·rename_i e z l e2 z2 l2 ho' heq;dsimp only at heq;subst heq;obtain⟨rfl,rfl,rfl⟩:=hm;obtain⟨h1,h2⟩:=hr o _ ho';show HRd (dR σ G) _ w o2 (.arr e z l);refine⟨?_,?_⟩
   ·rw[rE hσ hmem];exact h1.oR (fun g _ _ hk=>oz hσ hmem hk) (.inl fun b _ hb=>ky hb)
   ·rw[rE hσ hmem,iA hσ hmem]; exact h2
  ·rename_i k g m k2 g2 m2 ho' heq;dsimp only at heq;subst heq;obtain⟨rfl,rfl,rfl⟩:=hm;obtain⟨es,clock,h1,h2,h3⟩:=hr o _ ho';show HRd (dR σ G) _ w o2 (.kx k g m);refine⟨es,clock,?_,?_,h3⟩
   ·rw[iA hσ hmem]; exact h1
   ·rw[iA hσ hmem]; exact oz hσ hmem h2
  ·rename_i g m g2 m2 ho' heq;dsimp only at heq;subst heq;obtain⟨rfl,rfl⟩:=hm;obtain⟨es,clock,mv,h1,h2,h3⟩:=hr o _ ho';show HRd (dR σ G) _ w o2 (.iJ g m);refine⟨es,clock,mv,?_,?_,h3.frame fun b hb _=>⟨ky hb,rfl⟩⟩
   ·rw[iA hσ hmem]; exact h1
   ·rw[iA hσ hmem]; exact oz hσ hmem h2
  ·rename_i k g m k2 g2 m2 ho' heq;dsimp only at heq;subst heq;obtain⟨rfl,rfl,rfl⟩:=hm;obtain⟨es,clock,h1,h2,h3⟩:=hr o _ ho';show HRd (dR σ G) _ w o2 (.fM k g m);refine⟨es,clock,?_,?_,h3⟩
   ·rw[iA hσ hmem]; exact h1
   ·rw[iA hσ hmem]; exact oz hσ hmem h2
  ·rename_i k g m key d k2 g2 m2 key2 d2 ho' heq;dsimp only at heq;subst heq;obtain⟨rfl,rfl,rfl,rfl,hmd,hd2⟩:=hm;obtain⟨es,clock,h1,h2,h3,h4,i,e',h5,h6,h7⟩:=hr o _ ho';show HRd (dR σ G) _ w o2 (.sU k g m key d2);refine⟨es,clock,?_,?_,h3,hd2,i,e',h5,h6,?_⟩
   ·rw[iA hσ hmem]; exact h1
   ·rw[iA hσ hmem]; exact oz hσ hmem h2
   ·rw[rE hσ hmd]; exact h7
  ·rename_i k e z m h k2 e2 z2 m2 h2 ho' heq;dsimp only at heq;subst heq;obtain⟨rfl,rfl,rfl,rfl,rfl⟩:=hm;obtain⟨es,clock,mv,h1,h2,h3,h4,h5⟩:=hr o _ ho';show HRd (dR σ G) _ w o2 (.gI k e z m h);refine⟨es,clock,mv,?_,?_,h3,fun i x y hx hy hh=>?_,h5⟩
   ·rw[iA hσ hmem]; exact h1
   ·rw[iA hσ hmem]; exact oz hσ hmem h2
   ·exact (h4 i x y hx hy hh).oR (fun g _ _ hk=>oz hσ hmem hk) (.inl fun b _ hb=>ky hb)
  ·rename_i e cs e2 cs2 ho' heq;dsimp only at heq;subst heq;obtain⟨rfl,hcs⟩:=hm;obtain⟨vs,h1,h2,h3,h4,h5⟩:=hr o _ ho';show HRd (dR σ G) _ w o2 (.lit e cs2);have h6:=tT hσ hr h3 hcs;have hlen:cs2.length=cs.length:=h6.1.trans h3.1.symm;refine⟨vs,?_,?_,h6,?_,by rw[hlen]; exact h5⟩
   ·rw[iA hσ hmem]; exact h1
   ·rw[iA hσ hmem]; exact oz hσ hmem h2
   ·rw[rE hσ hmem,iA hσ hmem,hlen]; exact h4
  ·exact hm.elim
 ·rename_i hl;rcases hm with hm | hm
  rotate_left
  ·dsimp only at hm;subst hm;trivial
  obtain⟨hm,hlow⟩:=hm;unfold Co at hm;split at hm
  ·rename_i e z l heq;dsimp only at heq;subst heq hm;have hno:o2∉σ.m.map (·.2):=fun hin=>by
    obtain⟨x,hx,he⟩:=List.mem_map.1 hin;have:=(rD hσ (o:=x.1) (o2:=o2) (by rw[← he]; exact hx)).2;rw[this] at hl; cases hl
   have hv:(dR σ G).hv o2 = .slice none 0 0:=F3 hno hlow;show HRd (dR σ G) _ w o2 (.arr e z []);refine⟨?_,?_⟩
   ·rw[hv]; exact Own.nil _ _ _ _
   ·rw[hv]; simp [Value.ownBlock]
  ·exact hm.elim
theorem Bc (hχ:∀ b,χ0 b<=1) (h:Sub σ s tms hps) (r:bP w0 χ0 T0 s a w G):bP w0 χ0 T0 (oy tms hps) a w (dR σ G):=by
 obtain⟨⟨hσ,hv0,hp0,hpins⟩,ht,hh⟩:=h;refine⟨r.os,r.tape,r.output,r.size,r.old,fun b hb hT=>?_,fun b hb=>?_,fun o2 ho2=>?_,fun b hb=>ky (r.norm b hb),r.defers.step (Nat.le_refl _) (fun b _ h1=>⟨(if_pos (by omega)).trans h1,rfl⟩),fun t=>?_,fun o2 h2 ho=>?_,r.w5⟩
 ·have h1:=r.col b hb hT;show (if G.χ b<=1 then G.χ b else _)=χ0 b;rw[if_pos (by rw[h1]; exact hχ b)]; exact h1
 ·exact r.own b (Ew hb).1
 ·have key:∀ o,ae (σ.m.map fun x=>(x.2,x.1)) o2=some o->o=o2:=fun o hl=>by
   obtain⟨x,hx,he⟩:=List.mem_map.1 (cx hl);injection he with e1 e2
   have:=fP hpins x hx (by omega);omega
  constructor
  ·show (match ae (σ.m.map fun x=>(x.2,x.1)) o2 with | some o=>G.bl o | none=>if σ.pin=true/\1000000<=o2 then G.bl o2 else 0)=_;cases hl:ae (σ.m.map fun x=>(x.2,x.1)) o2 with
   | some o=>rw[key o hl]; exact (r.pin o2 ho2).1
   | none=>exact (if_pos ⟨hp0,ho2⟩).trans (r.pin o2 ho2).1
  ·show (match ae (σ.m.map fun x=>(x.2,x.1)) o2 with | some o=>G.hv o | none=>if σ.pin=true/\1000000<=o2 then G.hv o2 else .slice none 0 0)=_;cases hl:ae (σ.m.map fun x=>(x.2,x.1)) o2 with
   | some o=>rw[key o hl]; exact (r.pin o2 ho2).2
   | none=>exact (if_pos ⟨hp0,ho2⟩).trans (r.pin o2 ho2).2
 ·show SRd (dR σ G) (fun o=>ae hps o) w ((ae tms t).getD .dead) _;cases hl:ae tms t with
  | none=>trivial
  | some y=>exact F7 hσ r.gM (r.tms t) (fP ht _ (cx hl))
 ·exact Bb (q:=(o2,h2)) hσ r.gM (fP hh _ (cx (show ae hps o2=some h2 from ho)))
theorem xl (hχ:∀ b,χ0 b<=1) (h:Sub σ s tms hps) (ha:aX w0 χ0 T0 n s a w):aX w0 χ0 T0 n (oy tms hps) a w:=by
 obtain⟨hn,G,r⟩:=ha;exact⟨hn,_,Bc hχ h r⟩
end
end Go.Lad
namespace Go.Lad
open Go.RowKit
inductive Rz where
 | one (c:Cmp)
 | tup (l:List Cmp)
def Rz.eF:Rz->List Cmp
 | .one c=>[c]
 | .tup l=>l
def Rz.val:Rz->Value->List Value->Prop
 | .one _,v,us=>us=[v]
 | .tup _,v,us=>v = .tuple us.toArray
structure ra where
 args:List Slot
 hps:List (Nat×cu)
 res:Rz
 jQ:List (Nat×cu)
def hpL (l:List (Nat×cu)):Hp:=fun o=>ae l o
def gS (P:Program) (f:FuncId) (S:ra):Prop :=
 ∀ (w:World) (G:Gh) (vs:List Value),Norm G.χ w->wX G.χ w->dU (SRd G (hpL S.hps) w) S.args vs->(∀ o h,hpL S.hps o=some h->HRd G (hpL S.hps) w o h) ->
  Calls P f vs.toArray w fun e w'=>∃ (G':Gh) (v:Value) (us:List Value),e = .returned v/\S.res.val v us/\w'.os=w.os/\w'.tape=w.tape/\w'.output=w.output/\w.heap.size<=w'.heap.size /\
   (∀ b,b<w.heap.size->G.χ b<=1->w'.heap[b]?=w.heap[b]?/\G'.χ b=G.χ b)/\(∀ b,2<=G'.χ b->2<=G.χ b\/w.heap.size<=b)/\(∀ o,1000000<=o->G'.bl o=G.bl o/\G'.hv o=G.hv o)/\Norm G'.χ w' /\
   dU (CRd G' (hpL S.jQ) w') S.res.eF us/\(∀ o h,hpL S.jQ o=some h->HRd G' (hpL S.jQ) w' o h)
def mj (P:Program) (f:FuncId):Bool :=
 match P.funcs[f]? with
 | some fn=>fn.name != "runtime.NumGoroutine" && fn.body.isSome
 | none=>false
structure Opt where
 js:List Nat:=[]
 hs:List Nat:=[]
 vs:List Nat:=[]
 fz:List Nat:=[]
 mv:List Nat:=[]
 bx:List Nat:=[]
 nt:Nat:=0
def rnN (ρ:List (Nat×Nat)) (o:Nat):Nat:=(ae ρ o).getD o
def rnL (ρ:List (Nat×Nat)):av->av
 | .loc o f=>.loc (rnN ρ o) f
 | .own o=>.own (rnN ρ o)
 | .el o i f z=>.el (rnN ρ o) i f z
 | .mp o=>.mp (rnN ρ o)
 | .fn f caps=>.fn f (caps.map (rnN ρ))
 | .sv o a b z=>.sv (rnN ρ o) a b z
 | .ps o=>.ps (rnN ρ o)
 | x=>x
def rnC (ρ:List (Nat×Nat)):Cmp->Cmp
 | .v x=>.v (rnL ρ x)
 | .g xs=>.g (xs.map (rnL ρ))
def rnH (ρ:List (Nat×Nat)):cu->cu
 | .box t cs=>.box t (cs.map (rnL ρ))
 | .lit t cs=>.lit t (cs.map (rnL ρ))
 | .sU _ _ _ _ _=>.gone
 | h=>h
def rnZ (ρ:List (Nat×Nat)):Rz->Slot
 | .one c=>.c (rnC ρ c)
 | .tup l=>.t (l.map (rnC ρ))
def flL:av->Prop
 | .p p=>p.flat=true
 | .ip _ _=>False
 | .tl _=>False
 | _=>True
def flH:cu->Prop
 | .box _ cs=>∀ x∈cs,flL x
 | .arr _ _ l=>∀ row∈l,∀ p∈row,p.flat=true
 | .gI _ _ _ m _=>∀ y∈m,∀ row∈y.2,∀ p∈row,p.flat=true
 | .iJ _ m=>∀ y∈m,∀ p∈y.2,p.flat=true
 | .lit _ cs=>∀ x∈cs,flL x
 | _=>True
def zH (S:ra):Prop:=(∀ c∈S.res.eF,∀ x∈c.leaves,flL x)/\∀ x∈S.jQ,flH x.2
def vT (σ:Ren) (s:St) (hps:List (Nat×cu)):List Slot->List Slot->Prop
 | [],[]=>True
 | x::xs,y::ys=>rC σ s hps x y/\vT σ s hps xs ys
 | _,_=>False
def kl (o:Oper) (k:Nat):Prop := ∃ d m:Nat,o.dst=some d/\k=d+10000 * m
def oT (Γ:Opt) (o:Oper):Bool:=match o.dst with | some d=>!Γ.hs.contains d | none=>false
def qp (Γ:Opt) (o:Oper):Bool:=match o.dst with | some d=>Γ.hs.contains (d+1000000) | none=>false
def nE (Γ:Opt) (o:Oper) (i:Nat):Bool:=match o.dst with | some d=>Γ.hs.contains (d+1000000 * (i+2)) | none=>false
def gJ (s:St) (c:Call) (f:Nat) (caps:List Nat):List Slot:=if f % 2=0 then c.args.toList.map s.ev++caps.map fun o=>.c (.v (.loc o 0)) else (caps.map fun o=>.c (.v (.loc o 0)))++c.args.toList.map s.ev
def av.rF:av->Bool
 | .ip _ _=>true
 | _=>false
def Slot.lvs:Slot->List av
 | .dead=>[]
 | .c x=>x.leaves
 | .t l=>l.flatMap Cmp.leaves
structure Ju (Γ:Opt) (s:St) (o:Oper) (args:List Slot) (S:ra) (τ:List (Nat×Nat)) (vw:List Nat) (news:List (Nat×Nat)):Prop where
 lt:oT Γ o=true->∀ x∈args,∀ i∈x.ids,s.hp i≠none/\∀ e cs,s.hp i≠some (.lit e cs)
 args:vT ⟨τ,some vw,false⟩ s S.hps args S.args
 gM:pK (HSub ⟨τ,some vw,false⟩ s S.hps) S.hps
 nd0:(Ren.mk τ (some vw) false).nodup
 nd1:((τ.map (fun x=>(x.2,x.1))++news).map (·.1)).Nodup
 nd2:((τ.map (fun x=>(x.2,x.1))++news).map (·.2)).Nodup
 nd3:(S.jQ.map (·.1)).Nodup
 tau:pK (fun x=>1000000<=x.2/\s.hp x.1≠none/\ae S.jQ x.2≠none) τ
 dom:pK (fun x=>ae (τ.map (fun x=>(x.2,x.1))++news) x.1≠none) S.jQ
 fresh:pK (fun x=>s.hp x.2=none/\x.2<1000000/\kl o x.2) news
 flat:vw=[]\/zH S
 pure:oT Γ o=true->τ=[]/\∀ y∈S.args,∀ l∈y.lvs,l.rF=false
def wE (o:Oper) (S:ra) (ρ:List (Nat×Nat)):Eff :=
 ⟨True,match o.dst with | some _=>rnZ ρ S.res | none=>.dead,S.jQ.map fun x=>(rnN ρ x.1,rnH ρ x.2)⟩
def kz (P:Program) (Γ:Opt) (s:St) (o:Oper) (e:Eff):Prop :=
 ∃ (c:Call) (fo:Operand) (f:FuncId) (caps:List Nat) (S:ra) (τ:List (Nat×Nat)) (vw:List Nat) (news:List (Nat×Nat)),
  o.op = .call c/\c.callee = .value fo/\s.ev fo = .c (.v (.fn f caps))/\mj P (f / 2)=true/\gS P (f / 2) S/\Ju Γ s o (gJ s c f caps) S τ vw news/\(∀ x∈(wE o S (τ.map (fun x=>(x.2,x.1))++news)).wr,(qp Γ o || nE Γ o x.1)=true->s.hp x.1=none\/s.hp x.1=some x.2)/\e=wE o S (τ.map (fun x=>(x.2,x.1))++news)
theorem xm (hp:Hp):∀ (l:List (Nat×cu)) (o:Nat),(l.map (·.1)).Nodup->eJ hp l o=match ae l o with | some h=>some h | none=>hp o
 | [],o,_=>rfl
 | x::l,o,hn=>by
  rw[List.map_cons,List.nodup_cons] at hn;show eJ (Lad.upd hp x.1 (some x.2)) l o=_;rw[xm _ l o hn.2,show ae (x::l) o=if o=x.1 then some x.2 else ae l o from rfl];by_cases h:o=x.1
  ·subst h;rw[if_pos rfl,oS hn.1];exact aE _ _ _
  ·rw[if_neg h];cases ae l o with
   | some v=>rfl
   | none=>exact fV _ _ h
theorem qq {P:Program} {w:World} {f:FuncId} {args:Array Value} (h:mj P f=true):(callFunc f args).run P w = .ok (.enter f args) w:=by
 unfold mj at h;split at h
 ·rename_i fn hf;simp only[Bool.and_eq_true,bne_iff_ne,ne_eq] at h;have hb:¬ fn.body=none:=fun h0=>by rw[h0] at h; simp at h
  simp [callFunc,hf,h.1,hb]
 ·cases h
section
variable {P:Program} {Γ:Opt} {w0:World} {χ0:Col} {T0:Ctx} {s:St} {a:Act} {w:World} {G:Gh} {o:Oper} {Q:Exit->Act->World->Prop}
theorem Cr {σ:Ren} {hps:List (Nat×cu)} (hσ:σ.nodup) (ho:∀ o h,s.hp o=some h->HRd G s.hp w o h):∀ {xs ys:List Slot} {vs:List Value},dU (SRd G s.hp w) xs vs->vT σ s hps xs ys->dU (SRd (dR σ G) (hpL hps) w) ys vs
 | [],[],vs,h,_=>⟨by simpa using h.1,by simp⟩
 | [],_::_,_,_,h=>h.elim
 | _::_,[],_,_,h=>h.elim
 | x::xs,y::ys,vs,h,hs=>by
  cases vs with
  | nil=>have:=h.1; simp at this
  | cons v vs =>
   have ih:=Cr hσ ho (xs:=xs) (ys:=ys) (vs:=vs) ⟨by have:=h.1; simpa using this,fun i a b ha hb=>h.2 (i+1) a b (by simpa using ha) (by simpa using hb)⟩ hs.2;refine⟨by simp [ih.1],fun i a b ha hb=>?_⟩;cases i with
   | zero=>simp at ha hb; subst ha hb; exact F7 hσ ho (h.2 0 _ _ rfl rfl) hs.1
   | succ i=>exact ih.2 i a b (by simpa using ha) (by simpa using hb)
open Classical in
noncomputable def Jv (hp : Hp) (G : Gh) (n : Nat) (G' : Gh) (τ ρ : List (Nat×Nat)) : Gh :=
  { χ := fun b => if b<n /\ ¬ (2<=G.χ b/\ae τ (G.χ b-2)≠none) then G.χ b else if G'.χ b<=1 then G'.χ b else match ae ρ (G'.χ b-2) with | some o => o+2 | none => 1,
    bl := fun o => if hp o≠none\/1000000<=o then G.bl o else match ae (ρ.map fun x => (x.2, x.1)) o with | some o2 => G'.bl o2 | none => 0,
    hv := fun o => if hp o≠none\/1000000<=o then G.hv o else match ae (ρ.map fun x => (x.2, x.1)) o with | some o2 => G'.hv o2 | none => undef }
theorem MF {e:Eff} (r:bP w0 χ0 T0 s a w G) (hd:∀ k,o.dst=some k->k<a.tmps.size) (h:kz P Γ s o e):o.wp P a w (aX w0 χ0 T0 a.tmps.size (s.app o.dst e)) Q:=by
 obtain⟨c,fo,f,caps,S,τ,vw,news,ho,hcal,hfo,hcb,hmeets,hok,hkp,rfl⟩:=h;have hfv:=r.ev fo;rw[hfo] at hfv;have hfe:a.eval fo=fnV f (caps.map fun o=>ptr (G.bl o) 0):=LRd.val hfv;have hcaps:∀ o∈caps,s.hp o≠none:=fun o ho=>LRd.ids hfv o ho
 let vs:List Value:=if f % 2=0 then c.args.toList.map a.eval++caps.map fun o=>ptr (G.bl o) 0 else (caps.map fun o=>ptr (G.bl o) 0)++c.args.toList.map a.eval
 have hrun:(execOp a.eval o).run P w = .ok (.enter (f / 2) vs.toArray) w:=by
  by_cases hf2:f % 2=0
  ·have hfe2:a.eval fo = .func (.func (f / 2)) #[] (caps.map fun o=>ptr (G.bl o) 0).toArray:=by rw[hfe]; unfold fnV; rw[if_pos hf2]
   simp only[execOp,ho,resolve,hcal,hfe2,Deferred.ofValue,invoke,Sem.run_bind,Sem.run_pure,Result.andThen_ok];have e1:(#[]++Array.map a.eval c.args)++(caps.map fun o=>ptr (G.bl o) 0).toArray=vs.toArray:=by
    apply Array.ext'; simp [vs,hf2]
   rw[e1];exact qq hcb
  ·have hfe2:a.eval fo = .func (.func (f / 2)) (caps.map fun o=>ptr (G.bl o) 0).toArray #[]:=by rw[hfe]; unfold fnV; rw[if_neg hf2]
   simp only[execOp,ho,resolve,hcal,hfe2,Deferred.ofValue,invoke,Sem.run_bind,Sem.run_pure,Result.andThen_ok];have e1:((caps.map fun o=>ptr (G.bl o) 0).toArray++Array.map a.eval c.args) ++ #[]=vs.toArray:=by
    apply Array.ext'; simp [vs,hf2]
   rw[e1];exact qq hcb
 let σ:Ren:=⟨τ,some vw,false⟩
 let ρ:=τ.map (fun x=>(x.2,x.1))++news
 have hσ:σ.nodup:=hok.nd0;have hargs0:dU (SRd G s.hp w) (gJ s c f caps) vs:=by
  have ha1:dU (SRd G s.hp w) (c.args.toList.map s.ev) (c.args.toList.map a.eval):=by
   refine⟨by simp,fun i x v hx hv=>?_⟩;rw[List.getElem?_map,Option.map_eq_some_iff] at hx hv;obtain⟨y,hy,rfl⟩:=hx;obtain⟨y',hy',rfl⟩:=hv;rw[hy] at hy';injection hy' with hy'
   subst hy';exact r.ev y
  have ha2:dU (SRd G s.hp w) (caps.map fun o=>Slot.c (.v (.loc o 0))) (caps.map fun o=>ptr (G.bl o) 0):=by
   refine⟨by simp,fun i x v hx hv=>?_⟩;rw[List.getElem?_map,Option.map_eq_some_iff] at hx hv;obtain⟨y,hy,rfl⟩:=hx;obtain⟨y',hy',rfl⟩:=hv;rw[hy] at hy';injection hy' with hy'
   subst hy';exact⟨rfl,fun j hj=>by simp [av.ids] at hj; subst hj; exact hcaps _ (List.mem_of_getElem? hy),rfl⟩
  unfold gJ;show dU _ _ (if f % 2=0 then _ else _);by_cases hf2:f % 2=0
  ·rw[if_pos hf2,if_pos hf2]; exact dU.append ha1 ha2
  ·rw[if_neg hf2,if_neg hf2]; exact dU.append ha2 ha1
 have hargs:=Cr hσ r.gM hargs0 hok.args;have hobjs:∀ o h,hpL S.hps o=some h->HRd (dR σ G) (hpL S.hps) w o h:=fun o2 h2 hl=>Bb (q:=(o2,h2)) hσ r.gM (fP hok.gM _ (cx hl));have hnc:Norm (dR σ G).χ w:=fun b hb=>ky (r.norm b hb);unfold Oper.wp;rw[hrun];have hgc:wX (dR σ G).χ w:=fun g h=>⟨ky (r.Ca g h).1,(r.Ca g h).2⟩;refine (hmeets w (dR σ G) vs hnc hgc hargs hobjs).mono ?_;rintro e w' ⟨G',v,us,rfl,hval,q1,q2,q3,q4,q5,q6,q7,q8,q9,q10⟩;have hρ:∀ o2 o,(o2,o)∈ρ->ae ρ o2=some o/\ae (ρ.map fun x=>(x.2,x.1)) o=some o2:=fun o2 o h =>
  ⟨dh hok.nd1 h,dh (by rw[List.map_map]; exact hok.nd2) (List.mem_map.2 ⟨(o2,o),h,rfl⟩)⟩
 let G'':=Jv s.hp G w.heap.size G' τ ρ
 have hpassed:∀ b,b<w.heap.size -> ¬ (2<=G.χ b/\ae τ (G.χ b-2)≠none)->(dR σ G).χ b<=1:=fun b _ hb=>by
  rcases Nat.lt_or_ge 1 ((dR σ G).χ b) with h1 | h1
  ·exact absurd (Ew h1) hb
  ·exact h1
 have hχold:∀ b,b<w.heap.size -> ¬ (2<=G.χ b/\ae τ (G.χ b-2)≠none)->G''.χ b=G.χ b:=fun b hb hp=>if_pos ⟨hb,hp⟩;have hχnew:∀ b,¬ (b<w.heap.size /\ ¬ (2<=G.χ b/\ae τ (G.χ b-2)≠none))->G''.χ b=(if G'.χ b<=1 then G'.χ b else match ae ρ (G'.χ b-2) with | some o=>o+2 | none=>1):=fun b hp=>if_neg hp;have hown:∀ o2 o b,(o2,o)∈ρ->G'.χ b=o2+2->G''.χ b=o+2:=fun o2 o b hm hb=>by
  have hnp:¬ (b<w.heap.size /\ ¬ (2<=G.χ b/\ae τ (G.χ b-2)≠none)):=fun⟨h1,h2⟩=>by
   have h3:=hpassed b h1 h2;have h4:=(q5 b h1 h3).2;omega
  rw[hχnew b hnp,if_neg (by omega),hb,Nat.add_sub_cancel,(hρ o2 o hm).1]
 have hlow:∀ o2 o,(o2,o)∈ρ->(∃ x∈τ,x=(o,o2))\/(s.hp o=none/\o<1000000):=fun o2 o hm=>by
  rcases List.mem_append.1 hm with hm | hm
  ·obtain⟨x,hx,he⟩:=List.mem_map.1 hm;injection he with e1 e2
   exact .inl ⟨x,hx,by cases x; simp_all⟩
  ·have:=fP hok.fresh _ hm;exact .inr ⟨this.1,this.2.1⟩
 have hbl:∀ o2 o,(o2,o)∈ρ->G''.bl o=G'.bl o2/\G''.hv o=G'.hv o2:=fun o2 o hm=>by
  rcases hlow o2 o hm with⟨x,hx,rfl⟩ | ⟨h1,h2⟩
  ·obtain⟨t1,t2,t3⟩:=fP hok.tau _ hx;obtain⟨p1,p2⟩:=q7 o2 t1;refine⟨?_,?_⟩
   ·rw[p1,iA hσ hx]; exact if_pos (.inl t2)
   ·rw[p2,rE hσ hx]; exact if_pos (.inl t2)
  ·have hn:¬ (s.hp o≠none\/1000000<=o):=fun h=>h.elim (fun h=>h h1) fun h=>by omega
   refine⟨?_,?_⟩
   ·exact (if_neg hn).trans (by rw[(hρ o2 o hm).2])
   ·exact (if_neg hn).trans (by rw[(hρ o2 o hm).2])
 have hdom:∀ o2 h2,ae S.jQ o2=some h2->(o2,rnN ρ o2)∈ρ:=fun o2 h2 hl=>by
  have:=fP hok.dom _ (cx hl);cases hr:ae ρ o2 with
  | none=>exact absurd hr this
  | some o=>unfold rnN; rw[hr]; exact cx hr
 let wr:=S.jQ.map fun x=>(rnN ρ x.1,rnH ρ x.2)
 have hinj:∀ x∈S.jQ,∀ y∈S.jQ,rnN ρ x.1=rnN ρ y.1->x.1=y.1:=fun x hx y hy he=>by
  have h1:=hdom x.1 x.2 (dh hok.nd3 hx);have h2:=hdom y.1 y.2 (dh hok.nd3 hy);rw[← he] at h2;have h3:=(hρ _ _ h1).2;have h4:=(hρ _ _ h2).2;rw[h3] at h4;injection h4
 have hwrn:(wr.map (·.1)).Nodup:=by
  have e:wr.map (·.1)=(S.jQ.map (·.1)).map (rnN ρ):=by simp [wr,List.map_map,Function.comp_def]
  rw[e];rw[List.Nodup,List.pairwise_map,List.pairwise_map];have h0:=hok.nd3;rw[List.Nodup,List.pairwise_map] at h0;exact h0.imp_of_mem fun {x y} hx hy hne he=>hne (hinj x hx y hy he)
 have hlk:∀ o,eJ s.hp wr o=match ae wr o with | some h=>some h | none=>s.hp o:=fun o=>xm s.hp wr o hwrn
 have hput:∀ o2 h2,ae S.jQ o2=some h2->eJ s.hp wr (rnN ρ o2)=some (rnH ρ h2):=fun o2 h2 hl=>by
  rw[hlk,dh hwrn (List.mem_map.2 ⟨(o2,h2),cx hl,rfl⟩)]
 have hzero:vw=[]->∀ b,G'.χ b=0->G''.χ b=0:=fun hv b hb=>by
  by_cases hp:b<w.heap.size /\ ¬ (2<=G.χ b/\ae τ (G.χ b-2)≠none)
  ·rw[hχold b hp.1 hp.2];have h3:=hpassed b hp.1 hp.2;have h4:=(q5 b hp.1 h3).2;rw[hb] at h4;rcases Nat.lt_or_ge 1 (G.χ b) with h5 | h5
   ·have h6:(dR σ G).χ b=0:=h4.symm;have h7:(if G.χ b<=1 then G.χ b else match ae τ (G.χ b-2) with | some o2=>o2+2 | none=>(if G.χ b-2∈vw then 0 else 1))=0:=h6;rw[if_neg (by omega)] at h7;cases hl:ae τ (G.χ b-2) with
    | some o2=>rw[hl] at h7; simp at h7
    | none=>rw[hl,hv] at h7; simp at h7
   ·have h6:(dR σ G).χ b=G.χ b:=if_pos h5;rw[← h6,← h4]
  ·rw[hχnew b hp,if_pos (by omega)]; exact hb
 have hrd:∀ p u,(zH S->p.flat=true)->Rd (In G'.χ 0) w' p u->Rd (In G''.χ 0) w' p u:=fun p u hpf h=>by
  rcases hok.flat with hv | hf
  ·exact Rd.frame (fun i hi _=>⟨hzero hv i hi,rfl⟩) h
  ·exact Rd.of_flat h (hpf hf)
 have hids:∀ o2,ae S.jQ o2≠none->eJ s.hp wr (rnN ρ o2)≠none:=fun o2 hn=>by
  cases hl:ae S.jQ o2 with
  | none=>exact absurd hl hn
  | some h2=>rw[hput o2 h2 hl]; simp
 have hb2:∀ o2,ae S.jQ o2≠none->G''.bl (rnN ρ o2)=G'.bl o2/\G''.hv (rnN ρ o2)=G'.hv o2:=fun o2 hn=>by
  cases hl:ae S.jQ o2 with
  | none=>exact absurd hl hn
  | some h2=>exact hbl _ _ (hdom o2 h2 hl)
 have hleaf:∀ x u,(zH S->flL x)->LRd G' (hpL S.jQ) w' x u->LRd G'' (eJ s.hp wr) w' (rnL ρ x) u:=fun x u hfl h=>by
  have hv:=h.val;have hi:=h.ids;cases x with
  | dead=>exact⟨h.one,by simp [rnL,av.ids],trivial⟩
  | p p=>exact⟨h.one,by simp [rnL,av.ids],hrd p u hfl hv⟩
  | nil=>exact⟨h.one,by simp [rnL,av.ids],hv⟩
  | loc o2 off =>
   have h1:=hi o2 (by simp [av.ids]);refine⟨h.one,fun j hj=>?_,?_⟩
   ·simp [rnL,av.ids] at hj; subst hj; exact hids o2 h1
   ·show u=ptr (G''.bl (rnN ρ o2)) off;rw[(hb2 o2 h1).1]; exact hv
  | own o2 =>
   have h1:=hi o2 (by simp [av.ids]);refine⟨h.one,fun j hj=>?_,?_⟩
   ·simp [rnL,av.ids] at hj; subst hj; exact hids o2 h1
   ·show u=G''.hv (rnN ρ o2);rw[(hb2 o2 h1).2]; exact hv
  | el o2 i off z =>
   have h1:=hi o2 (by simp [av.ids]);refine⟨h.one,fun j hj=>?_,?_⟩
   ·simp [rnL,av.ids] at hj; subst hj; exact hids o2 h1
   ·show u=ptr (G''.bl (rnN ρ o2)) (lB (G''.hv (rnN ρ o2))+_);rw[(hb2 o2 h1).1,(hb2 o2 h1).2]; exact hv
  | ip cs off =>
   obtain⟨b,off0,g1,g2,g3,g4⟩:=hv;rcases hok.flat with hvw | hf
   ·refine⟨h.one,by simp [rnL,av.ids],b,off0,g1,hzero hvw b g2,g3,fun j p hj=>?_⟩;obtain⟨u',hu',hr⟩:=g4 j p hj;exact⟨u',hu',Rd.frame (fun i hi _=>⟨hzero hvw i hi,rfl⟩) hr⟩
   ·exact (hfl hf).elim
  | mp o2 =>
   have h1:=hi o2 (by simp [av.ids]);refine⟨h.one,fun j hj=>?_,?_⟩
   ·simp [rnL,av.ids] at hj; subst hj; exact hids o2 h1
   ·show u = .map (some (G''.bl (rnN ρ o2)));rw[(hb2 o2 h1).1]; exact hv
  | fn f' caps' =>
   refine⟨h.one,fun j hj=>?_,?_⟩
   ·simp only[rnL,av.ids,List.mem_map] at hj;obtain⟨o2,ho2,rfl⟩:=hj;exact hids o2 (hi o2 ho2)
   ·show u=fnV f' ((caps'.map (rnN ρ)).map fun o=>ptr (G''.bl o) 0);have:(caps'.map (rnN ρ)).map (fun o=>ptr (G''.bl o) 0)=caps'.map fun o=>ptr (G'.bl o) 0:=by
     rw[List.map_map];exact List.map_congr_left fun o2 ho2=>by rw[Function.comp,(hb2 o2 (hi o2 ho2)).1]
    rw[this]; exact hv
  | nb pos l=>exact⟨h.one,by simp [rnL,av.ids],hv⟩
  | tl l =>
   rcases hok.flat with hvw | hf
   ·exact⟨h.one,by simp [rnL,av.ids],Rd.frame (fun i hi _=>⟨hzero hvw i hi,rfl⟩) hv.1,hv.2⟩
   ·exact (hfl hf).elim
  | ps o2 =>
   have h1:=hi o2 (by simp [av.ids]);refine⟨h.one,fun j hj=>?_,?_⟩
   ·simp [rnL,av.ids] at hj; subst hj; exact hids o2 h1
   ·show u = .pointer none\/u=ptr (G''.bl (rnN ρ o2)) 0;rw[(hb2 o2 h1).1]; exact hv
  | sv o2 i j z =>
   have h1:=hi o2 (by simp [av.ids]);refine⟨h.one,fun j hj=>?_,?_⟩
   ·simp [rnL,av.ids] at hj; subst hj; exact hids o2 h1
   ·obtain⟨A,n,c',g1,g2⟩:=hv;exact⟨A,n,c',by rw[(hb2 o2 h1).2]; exact g1,g2⟩
 have hleaves:∀ xs vs,(zH S->∀ x∈xs,flL x)->dU (LRd G' (hpL S.jQ) w') xs vs->dU (LRd G'' (eJ s.hp wr) w') (xs.map (rnL ρ)) vs:=fun xs vs hfl h=>by
  refine⟨by simpa using h.1,fun i x u hx hu=>?_⟩;rw[List.getElem?_map,Option.map_eq_some_iff] at hx;obtain⟨y,hy,rfl⟩:=hx;exact hleaf y u (fun hf=>hfl hf y (List.mem_of_getElem? hy)) (h.2 i y u hy hu)
 have hcmp:∀ c u,(zH S->∀ x∈c.leaves,flL x)->CRd G' (hpL S.jQ) w' c u->CRd G'' (eJ s.hp wr) w' (rnC ρ c) u:=fun c u hfl h=>by
  cases c with
  | v x=>exact hleaf x u (fun hf=>hfl hf x (by simp [Cmp.leaves])) h
  | g xs=>obtain⟨vs,h1,h2⟩:=h; exact⟨vs,h1,hleaves xs vs hfl h2⟩
 have hobj:∀ o2 h2,ae S.jQ o2=some h2->HRd G'' (eJ s.hp wr) w' (rnN ρ o2) (rnH ρ h2):=fun o2 h2 hl=>by
  have h:=q10 o2 h2 hl;have hm:=hdom o2 h2 hl;have hfl:zH S->flH h2:=fun hf=>hf.2 _ (cx hl);obtain⟨e1,e2⟩:=hbl _ _ hm;cases h2 with
  | gone=>trivial
  | box t cs =>
   obtain⟨vs,g1,g2,g3⟩:=h;refine⟨vs,?_,?_,hleaves cs vs (fun hf=>hfl hf) g3⟩
   ·rw[e1]; exact g1
   ·rw[e1]; exact hown _ _ _ hm g2
  | arr t z l =>
   obtain⟨g1,g2⟩:=h;refine⟨?_,?_⟩
   ·rw[e2];refine g1.oR (fun g _ _ hk=>hown _ _ _ hm hk) ?_;rcases hok.flat with hv | hf
    ·exact .inl fun b _ hb=>hzero hv b hb
    ·exact .inr (hfl hf)
   ·rw[e1,e2]; exact g2
  | kx k agg m =>
   obtain⟨es,clock,g1,g2,g3⟩:=h;refine⟨es,clock,?_,?_,g3⟩
   ·rw[e1]; exact g1
   ·rw[e1]; exact hown _ _ _ hm g2
  | iJ agg m =>
   obtain⟨es,clock,mv,g1,g2,g3⟩:=h;refine⟨es,clock,mv,?_,?_,?_⟩
   ·rw[e1]; exact g1
   ·rw[e1]; exact hown _ _ _ hm g2
   ·rcases hok.flat with hv | hf
    ·exact g3.frame fun b hb _=>⟨hzero hv b hb,rfl⟩
    ·exact g3.flat fun y hy p hp=>hfl hf y hy p hp
  | fM k agg m =>
   obtain⟨es,clock,g1,g2,g3⟩:=h;refine⟨es,clock,?_,?_,g3⟩
   ·rw[e1]; exact g1
   ·rw[e1]; exact hown _ _ _ hm g2
  | sU k agg m key d=>trivial
  | gI k e z m hh =>
   obtain⟨es,clock,mv,g1,g2,g3,g4,g5⟩:=h;refine⟨es,clock,mv,?_,?_,g3,fun i x y hx hy hq=>?_,g5⟩
   ·rw[e1]; exact g1
   ·rw[e1]; exact hown _ _ _ hm g2
   ·refine (g4 i x y hx hy hq).oR (fun g _ _ hk=>hown _ _ _ hm hk) ?_;rcases hok.flat with hv | hf
    ·exact .inl fun b _ hb=>hzero hv b hb
    ·exact .inr (hfl hf y (List.mem_of_getElem? hy))
  | lit t cs =>
   obtain⟨vs,g1,g2,g3,g4,g5⟩:=h;refine⟨vs,?_,?_,hleaves cs vs (fun hf=>hfl hf) g3,?_,by rw[List.length_map]; exact g5⟩
   ·rw[e1]; exact g1
   ·rw[e1]; exact hown _ _ _ hm g2
   ·rw[e1,e2,List.length_map]; exact g4
 have hext:Ext G s.hp w G'' (eJ s.hp wr) w':=by
  refine⟨fun b hb hl=>?_,fun o ho=>if_pos ho,fun o ho=>if_pos ho,fun o ho=>kO _ _ _ ho⟩;have hb0:G.χ b=0:=hb;have hnp:¬ (2<=G.χ b/\ae τ (G.χ b-2)≠none):=fun h=>by omega
  exact⟨(hχold b hl hnp).trans hb0,(q5 b hl (hpassed b hl hnp)).1⟩
 have hchg:Chg (τ.map fun x=>x.1+2) G.χ w G''.χ w':=by
  have key:∀ b,G.χ b∉τ.map (fun x=>x.1+2) -> ¬ (2<=G.χ b/\ae τ (G.χ b-2)≠none):=fun b hb ⟨h1,h2⟩=>by
   cases hl:ae τ (G.χ b-2) with
   | none=>exact h2 hl
   | some o2=>exact hb (List.mem_map.2 ⟨_,cx hl,by dsimp only; omega⟩)
  exact⟨q1,q2,q3,q4,fun b hb hT=>hχold b hb (key b hT),fun b hb hT=>(q5 b hb (hpassed b hb (key b hT))).1⟩
 have hnorm:Norm G''.χ w':=fun b hb=>by
  have h1:¬ (b<w.heap.size /\ ¬ (2<=G.χ b/\ae τ (G.χ b-2)≠none)):=fun h=>by omega
  rw[hχnew b h1,q8 b hb]; rfl
 have hres:SRd G'' (eJ s.hp wr) w' (rnZ ρ S.res) v:=by
  have hc:∀ i c u,S.res.eF[i]?=some c->us[i]?=some u->CRd G'' (eJ s.hp wr) w' (rnC ρ c) u:=fun i c u hi hu=>hcmp c u (fun hf=>hf.1 c (List.mem_of_getElem? hi)) (q9.2 i c u hi hu);cases hrs:S.res with
  | one c' =>
   rw[hrs] at hval hc;have hval:us=[v]:=hval;subst hval;exact hc 0 c' v rfl rfl
  | tup l =>
   rw[hrs] at hval hc;have hval:v = .tuple us.toArray:=hval;have hl:=q9.1;rw[hrs] at hl;refine⟨us,hval,by simpa [Rz.eF] using hl,fun i x u hx hu=>?_⟩;rw[List.getElem?_map,Option.map_eq_some_iff] at hx;obtain⟨c',hc',rfl⟩:=hx;exact hc i c' u hc' hu
 refine⟨Act.jF _ _ _,G'',r.upd (T:=τ.map fun x=>x.1+2) hd hext hchg (fun k hk=>?_) hnorm (fun o h ho'=>?_) ?_⟩
 ·obtain⟨x,_,rfl⟩:=List.mem_map.1 hk;omega
 ·have ho':eJ s.hp wr o=some h:=ho';rw[hlk] at ho';cases hl:ae wr o with
  | some h3 =>
   rw[hl] at ho';injection ho' with ho'
   subst ho';obtain⟨x,hx,he⟩:=List.mem_map.1 (cx hl);injection he with e1 e2
   subst e1 e2;exact .inr (hobj x.1 x.2 (dh hok.nd3 hx))
  | none =>
   rw[hl] at ho';refine .inl ⟨ho',fun hT=>?_⟩;obtain⟨x,hx,he⟩:=List.mem_map.1 hT;have hxo:x.1=o:=by omega
   obtain⟨t1,t2,t3⟩:=fP hok.tau _ hx;cases hl2:ae S.jQ x.2 with
   | none=>exact t3 hl2
   | some h2 =>
    have h5:=hdom x.2 h2 hl2;have h6:(x.2,x.1)∈ρ:=List.mem_append_left _ (List.mem_map.2 ⟨x,hx,rfl⟩);have h7:rnN ρ x.2=x.1:=by unfold rnN; rw[(hρ _ _ h6).1]; rfl
    have h8:=dh hwrn (List.mem_map.2 ⟨(x.2,h2),cx hl2,rfl⟩);dsimp only at h8;rw[h7,hxo,hl] at h8;cases h8
 ·show SRd G'' _ w' (match o.dst with | some _=>rnZ ρ S.res | none=>.dead) v;cases hdst:o.dst with
  | some d=>exact hres
  | none=>trivial
end
end Go.Lad
namespace Go.Lad
open Go.RowKit
def xn (P:Program) (t:TypeId) (dst:Option Nat) (free:Bool):List Slot->Option Eff
 | [.c c]=>match dst,gB P t with
  | some d,some n=>if free=true/\c.leaves.length=n then some ⟨True,.x (.loc d 0),[(d,.box t c.leaves)]⟩ else none
  | _,_=>none
 | _=>none
def qt:List Slot->Option (List Nat)
 | []=>some []
 | .c (.v (.loc o 0))::r=>(qt r).map (o :: ·)
 | _=>none
def lQ (fn:Fn) (first:Nat) (caps:List Slot):Option Eff :=
 match fn,first,qt caps with
 | .func f,0,some l=>val (.x (.fn (2 * f) l))
 | .func f,n+1,some l=>if l.length=n+1 then val (.x (.fn (2 * f+1) l)) else none
 | _,_,_=>none
def nO (mx:Bool):List Slot->Option Eff
 | [.c (.v (.p (.int k a))),.c (.v (.p (.int k' b)))]=>if k=k' then val (.p (.int k (if mx then max a b else min a b))) else none
 | [.c (.v (.p (.int k a))),.c (.v (.p (.int k' b))),.c (.v (.p (.int k2 c)))]=>if k=k'/\k=k2 then val (.p (.int k (if mx then max (max a b) c else min (min a b) c))) else none
 | _=>none
def kP (P:Program) (t:TypeId) (dst:Option Nat) (free:Bool):List Slot->Option Eff
 | [.c (.v (.p (.int _ n))),.c (.v (.p (.int _ m)))]=>match cR P t,dst with
  | some (e,z),some d=>match pJ P e with
   | some (_,ps)=>if free=true/\ps.length=z then some ⟨0<=n/\n=m/\n<=4294967296,.x (.own d),[(d,.arr e z (List.replicate n.toNat ps))]⟩ else none
   | none=>none
  | _,_=>none
 | _=>none
def Bd:List PV->Option UInt8
 | [.int .u8 n]=>some (UInt8.ofNat n.toNat)
 | _=>none
def bytesOf:List (List PV)->Option (List UInt8)
 | []=>some []
 | r::l=>match Bd r,bytesOf l with | some b,some m=>some (b::m) | _,_=>none
def rG (P:Program) (src dst:TypeId):List Arg->Option Eff
 | [a]=>match cR P src,P.underlying dst,kF a with
  | some (e,1),some .string,some l=>match P.underlying e,bytesOf l with
   | some (.int .u8),some m=>some ⟨m.length<=9223372036854775807,.p (.str ⟨m.toArray⟩),[]⟩
   | _,_=>none
  | _,_,_=>none
 | _=>none
def Hw:PV->PV->Option Bool
 | .int k a,.int k' b=>if k=k' then some (decide (a=b)) else none
 | .str a,.str b=>some (decide (a=b))
 | .bool a,.bool b=>some (a == b)
 | _,_=>none
def ml:List PV->List PV->Option Bool
 | [],[]=>some true
 | p::ps,q::qs=>match Hw p q,ml ps qs with | some a,some b=>some (a && b) | _,_=>none
 | _,_=>none
def uX (P:Program) (t:TypeId):PV->Bool
 | .int _ _=>match P.underlying t with | some (.int _)=>true | _=>false
 | .str _=>match P.underlying t with | some .string=>true | _=>false
 | .bool _=>match P.underlying t with | some .bool=>true | _=>false
 | _=>false
def tU (P:Program):Nat->List Field->List PV->Bool
 | _,[],[]=>true
 | i,f::fs,p::ps=>decide (f.offset=i) && (f.name != "_") && uX P f.type p && tU P (i+1) fs ps
 | _,_,_=>false
def qu (P:Program):Nat->List Field->List PV->Bool
 | _,[],[]=>true
 | _,[],_::_=>false
 | i,f::fs,ps=>decide (f.offset=i) && (f.name != "_") && (match P.underlying f.type with
  | some (.struct gs)=>decide (gs.size<=ps.length) && tU P 0 gs.toList (ps.take gs.size) && !P.stoodInHeld f.type && (match P.info? f.type with | some inf=>decide (inf.size=gs.size) | none=>false) && qu P (i+gs.size) fs (ps.drop gs.size)
  | _=>match ps with
   | p::r=>uX P f.type p && qu P (i+1) fs r
   | []=>false)
def rb (P:Program) (b:BinOp) (t:TypeId):List Slot->Option Eff
 | [.c (.g xs),.c (.g ys)]=>match P.underlying t with
  | some (.struct fs)=>match ew xs,ew ys with
   | some ps,some qs=>if (qu P 0 fs.toList ps && !P.stoodInHeld t && !P.eqGuardType P.depth t)=true then
     match b,ml ps qs with
     | .eql,some r=>val (.p (.bool r))
     | .neq,some r=>val (.p (.bool (!r)))
     | _,_=>none
    else none
   | _,_=>none
  | _=>none
 | _=>none
def Qw:BinOp->Bool
 | .and | .or | .xor | .andNot | .shl | .shr=>true
 | _=>false
def MG (k:IntKind) (a b:Int):Int:=k.wrap ((BitVec.ofInt k.bits a &&& BitVec.ofInt k.bits b).toNat:Int)
def orI (k:IntKind) (a b:Int):Int:=k.wrap ((BitVec.ofInt k.bits a ||| BitVec.ofInt k.bits b).toNat:Int)
def MH (k:IntKind) (a b:Int):Int:=k.wrap ((BitVec.ofInt k.bits a ^^^ BitVec.ofInt k.bits b).toNat:Int)
def anI (k:IntKind) (a b:Int):Int:=k.wrap ((BitVec.ofInt k.bits a &&& ~~~BitVec.ofInt k.bits b).toNat:Int)
def MI (k:IntKind) (a n:Int):Int:=k.wrap (a * 2 ^ (min n.toNat k.bits))
def Cs (k:IntKind) (a n:Int):Int:=a.fdiv (2 ^ (min n.toNat k.bits))
def Ey (b:BinOp):List Slot->Option Eff
 | [.c (.v (.p (.int k a))),.c (.v (.p (.int k2 n)))]=>match b with
  | .shl=>dQ (0<=n) (.p (.int k (MI k a n)))
  | .shr=>dQ (0<=n/\inK k (Cs k a n)) (.p (.int k (Cs k a n)))
  | .and=>if k=k2 then val (.p (.int k (MG k a n))) else none
  | .or=>if k=k2 then val (.p (.int k (orI k a n))) else none
  | .xor=>if k=k2 then val (.p (.int k (MH k a n))) else none
  | .andNot=>if k=k2 then val (.p (.int k (anI k a n))) else none
  | _=>none
 | _=>none
def isC:Operand->Bool
 | .const _=>true
 | _=>false
def Ct (P:Program) (b:BinOp) (t:TypeId) (c:Bool):List Slot->Option Eff
 | [.c (.v (.p (.oth .nilIface))),.c (.v (.p (.oth .nilIface)))]=>match c,b,P.underlying t with
  | true,.eql,some (.interface _)=>val (.p (.bool true))
  | true,.neq,some (.interface _)=>val (.p (.bool false))
  | _,_,_=>none
 | _=>none
def zd (P:Program) (b:BinOp) (t:TypeId) (c:Bool) (l:List Slot):Option Eff:=match rb P b t l with | some e=>some e | none=>match Ey b l with | some e=>some e | none=>Ct P b t c l
def ON (P:Program) (t:TypeId):List Slot->Option Eff:=fun _=>none
def Ez (P:Program) (src dst:TypeId) (args:List Slot):Option Eff :=
 match P.underlying src,P.underlying dst with
 | some .string,some (.slice el)=>match P.underlying el with
  | some (.int .u8)=>match args with
   | [.c (.v (.p (.str s)))]=>val (.p (.sl (s.data.toList.map fun b=>[PV.int .u8 (b.toNat:Int)])))
   | _=>none
  | _=>none
 | _,_=>none
def nF (P:Program) (src dst:TypeId) (args:List Arg):Option Eff:=match Ez P src dst (args.map (·.1)) with | some e=>some e | none=>rG P src dst args
def iB (P:Program) (op:Op) (dst:Option Nat) (free:Bool) (args:List Arg):Option Eff :=
 match op with
 | .box t _=>xn P t dst free (args.map (·.1))
 | .makeFunc fn first _=>lQ fn first.size (args.map (·.1))
 | .call { callee := .builtin .min,.. }=>nO false (args.map (·.1))
 | .call { callee := .builtin .max,.. }=>nO true (args.map (·.1))
 | .makeSlice t _ _=>kP P t dst free (args.map (·.1))
 | .convert s d _=>nF P s d args
 | .binOp b t _ y _=>zd P b t (isC y) (args.map (·.1))
 | .slice t _ none (some _) (some _)=>ON P t (args.map (·.1))
 | _=>none
section
variable {P:Program} {w0:World} {χ0:Col} {T0:Ctx} {s:St} {a:Act} {w:World} {G:Gh} {o:Oper} {Q:Exit->Act->World->Prop}
theorem Jw {e:Eff} {t:TypeId} {x:Operand} (r:bP w0 χ0 T0 s a w G) (hd:∀ k,o.dst=some k->k<a.tmps.size) (ho:o.op = .box t x) (h:xn P t o.dst (aF s.hp o.dst) [s.ev x]=some e) :
  o.wp P a w (aX w0 χ0 T0 a.tmps.size (s.app o.dst e)) Q:=by
 have hx:=r.ev x;unfold xn at h;split at h
 ·rename_i c heq;simp only[List.cons.injEq,and_true] at heq;rw[heq] at hx;split at h
  ·rename_i d n hdst hn;split at h
   ·rename_i hc;obtain⟨hf,hl⟩:=hc;simp only[Option.some.injEq] at h;subst h;rw[hdst] at hf;have hf':s.hp d=none/\d<1000000:=by simpa [aF] using hf
    have hcells:=CRd.cells hx;refine mh r hd hf' (x := .cells (a.eval x).cells t) (v:=ptr w.heap.size 0) .nilFunc ?_ ⟨rfl,fun j hj=>?_,?_⟩ ?_
    ·simp [execOp,ho,Instr.box,newVar,newRow,ptr]
    ·simp [av.ids] at hj; subst hj; rw[aE]; simp
    ·show ptr w.heap.size 0=ptr (Lad.upd G.bl d w.heap.size d) 0;rw[aE]
    ·refine⟨(a.eval x).cells.toList,?_,?_,hcells.mono fun y v hy=>hy.ext (Ext.new r.norm hf' _ .nilFunc _)⟩
     ·show Blk _ (Lad.upd G.bl d w.heap.size d) t _;rw[aE]; simpa using Blk.new w t (a.eval x).cells
     ·show (if (Lad.upd G.bl d w.heap.size d)=w.heap.size then d+2 else _)=d+2;rw[aE,if_pos rfl]
   ·cases h
  ·cases h
 ·cases h
theorem uY:∀ (xs:List Operand) (l:List Nat),bP w0 χ0 T0 s a w G->qt (xs.map s.ev)=some l->(∀ i∈l,s.hp i≠none)/\xs.map a.eval=l.map fun o=>ptr (G.bl o) 0
 | [],l,r,h=>by simp [qt] at h; subst h; simp
 | x::xs,l,r,h=>by
  have hx:=r.ev x;rw[List.map_cons] at h;unfold qt at h;split at h
  ·rename_i heq; cases heq
  ·rename_i ob rest heq;simp only[List.cons.injEq] at heq;obtain⟨e1,rfl⟩:=heq;rw[e1] at hx;rw[Option.map_eq_some_iff] at h;obtain⟨l',hl',rfl⟩:=h;obtain⟨h1,h2⟩:=uY xs l' r hl';refine⟨fun i hi=>?_,?_⟩
   ·rcases List.mem_cons.1 hi with rfl | hi
    ·exact hx.ids _ (by simp [av.ids])
    ·exact h1 i hi
   ·rw[List.map_cons,List.map_cons,h2,show a.eval x=ptr (G.bl ob) 0 from LRd.val hx]
  ·cases h
theorem ze {e:Eff} {fn:Fn} {first caps:Array Operand} (r:bP w0 χ0 T0 s a w G) (hd:∀ k,o.dst=some k->k<a.tmps.size) (ho:o.op = .makeFunc fn first caps) (h:lQ fn first.size ((first.toList++caps.toList).map s.ev)=some e) :
  o.wp P a w (aX w0 χ0 T0 a.tmps.size (s.app o.dst e)) Q:=by
 unfold lQ at h;split at h
 ·rename_i f l hfs hl;have hfirst:first = #[]:=Array.eq_empty_of_size_eq_zero hfs
  subst hfirst;simp only[val,Option.some.injEq] at h;subst h;have hl:qt (caps.toList.map s.ev)=some l:=by simpa using hl
  obtain⟨h1,h2⟩:=uY _ l r hl;refine bD r hd (v := .func (.func f) #[] (caps.map a.eval)) ?_ ⟨rfl,h1,?_⟩
  ·simp [execOp,ho,Instr.makeFunc]
  ·show Value.func (.func f) #[] (caps.map a.eval)=fnV (2 * f) (l.map fun o=>ptr (G.bl o) 0);rw[pS,← h2];congr 1;apply Array.ext'; simp
 ·rename_i f n l hfs hl;split at h
  ·rename_i hlen;simp only[val,Option.some.injEq] at h;subst h;obtain⟨h1,h2⟩:=uY _ l r (show qt (((first.toList++caps.toList)).map s.ev)=some l from hl);have hcl:(first.toList++caps.toList).length=l.length:=by
    have:=congrArg List.length h2
    simpa using this
   have hc0:caps = #[]:=by
    rw[List.length_append,Array.length_toList,Array.length_toList,hfs,hlen] at hcl;exact Array.eq_empty_of_size_eq_zero (by omega)
   subst hc0;refine bD r hd (v := .func (.func f) (first.map a.eval) #[]) ?_ ⟨rfl,h1,?_⟩
   ·simp [execOp,ho,Instr.makeFunc]
   ·show Value.func (.func f) (first.map a.eval) #[]=fnV (2 * f+1) (l.map fun o=>ptr (G.bl o) 0);rw[My,← h2];congr 1;apply Array.ext'; simp
  ·cases h
 ·cases h
theorem MJ {e:Eff} {b:BinOp} {t t':TypeId} {x y:Operand} (r:bP w0 χ0 T0 s a w G) (hd:∀ k,o.dst=some k->k<a.tmps.size) (ho:o.op = .binOp b t x y t') (h:Ct P b t (isC y) [s.ev x,s.ev y]=some e) :
  o.wp P a w (aX w0 χ0 T0 a.tmps.size (s.app o.dst e)) Q:=by
 have hx:=r.ev x;have hy:=r.ev y;cases hcc:isC y with
 | false=>rw[hcc] at h; unfold Ct at h; split at h <;> (try split at h) <;> simp_all
 | true =>
  rw[hcc] at h;unfold Ct at h;split at h
  ·rename_i heq;simp only[List.cons.injEq,and_true] at heq;rw[heq.1] at hx;rw[heq.2] at hy;have hv:a.eval x = .nilIface:=wZ hx;have hz:a.eval y = .nilIface:=wZ hy;have hg:(eqGuard b t x y .nilIface .nilIface).run P w = .ok () w:=by
    cases y with
    | const v=>cases b <;> cases x <;> rfl
    | tmp i=>cases hcc
    | global i=>cases hcc
    | func i=>cases hcc
   split at h
   ·rename_i hu;simp only[val,Option.some.injEq] at h;subst h;exact bD r hd (v := .bool true) (by simp [execOp,ho,hv,hz,hg,binOp,Cf hu]) (ke _)
   ·rename_i hu;simp only[val,Option.some.injEq] at h;subst h;exact bD r hd (v := .bool false) (by simp [execOp,ho,hv,hz,hg,binOp,Cf hu]) (ke _)
   ·cases h
  ·cases h
theorem vU {e : Eff} {mx : Bool} {c : Call} {b : Builtin} (r : bP w0 χ0 T0 s a w G) (hd : ∀ k, o.dst=some k->k<a.tmps.size) (ho : o.op = .call c) (hc : c.callee = .builtin b) (hb : b=if mx then .max else .min) (h : nO mx (c.args.toList.map s.ev)=some e) :
    o.wp P a w (aX w0 χ0 T0 a.tmps.size (s.app o.dst e)) Q := by
  have hargs : ∀ x y : Operand, c.args.toList=[x, y]->c.args = #[x, y] := fun x y h => by rw [← Array.toArray_toList (xs := c.args), h]
  unfold nO at h;split at h
  · rename_i k m k' n heq
    obtain ⟨x, y, hxy⟩ : ∃ x y, c.args.toList=[x, y] := by
      cases hl : c.args.toList with
      | nil => rw [hl] at heq; simp at heq
      | cons x l => cases l with
        | nil => rw [hl] at heq; simp at heq
        | cons y l => cases l with
          | nil => exact ⟨x, y, rfl⟩
          | cons z l => rw [hl] at heq; simp at heq
    rw [hxy] at heq;simp only [List.map_cons, List.map_nil, List.cons.injEq, and_true] at heq;have hx := r.ev x;have hy := r.ev y;rw [heq.1] at hx;rw [heq.2] at hy;split at h
    · rename_i hk
      subst hk;simp only [val, Option.some.injEq] at h;subst h;obtain ⟨v1, w1⟩ := fH hx;obtain ⟨v2, w2⟩ := fH hy;refine bD r hd (v := .int k (if mx then max m n else min m n)) ?_ (iz ?_)
      · cases mx with
        | true =>
          simp only [execOp, ho, resolve, hc, hb, invoke, builtin, Sem.run_bind, Sem.run_pure, Result.andThen_ok, hargs x y hxy, List.map_toArray, List.map_cons, List.map_nil, Builtin.max_, List.foldlM, v1, v2, Builtin.max2, if_true];simp only [Result.ok.injEq, Next.value.injEq, Value.int.injEq, true_and, and_true, gt_iff_lt];omega
        | false =>
          simp only [execOp, ho, resolve, hc, hb, invoke, builtin, Sem.run_bind, Sem.run_pure, Result.andThen_ok, hargs x y hxy, List.map_toArray, List.map_cons, List.map_nil, Builtin.min_, List.foldlM, v1, v2, Builtin.min2, Bool.false_eq_true, if_false];simp only [Result.ok.injEq, Next.value.injEq, Value.int.injEq, true_and, and_true];omega
      · cases mx with
        | true => simp only [if_true]; have : max m n=m\/max m n=n := by omega
                  rcases this with h | h <;> rw [h] <;> assumption
        | false => simp only [Bool.false_eq_true, if_false]; have : min m n=m\/min m n=n := by omega
                   rcases this with h | h <;> rw [h] <;> assumption
    · cases h
  · rename_i k m k' n k2 q heq
    obtain ⟨x, y, z, hxy⟩ : ∃ x y z, c.args.toList=[x, y, z] := by
      cases hl : c.args.toList with
      | nil => rw [hl] at heq; simp at heq
      | cons x l => cases l with
        | nil => rw [hl] at heq; simp at heq
        | cons y l => cases l with
          | nil => rw [hl] at heq; simp at heq
          | cons z l => cases l with
            | nil => exact ⟨x, y, z, rfl⟩
            | cons z l => rw [hl] at heq; simp at heq
    have hargs : c.args = #[x, y, z] := by rw [← Array.toArray_toList (xs := c.args), hxy]
    rw [hxy] at heq;simp only [List.map_cons, List.map_nil, List.cons.injEq, and_true] at heq;have hx := r.ev x;have hy := r.ev y;have hz := r.ev z;rw [heq.1] at hx;rw [heq.2.1] at hy;rw [heq.2.2] at hz;split at h
    · rename_i hk
      obtain ⟨rfl, rfl⟩ := hk;simp only [val, Option.some.injEq] at h;subst h;obtain ⟨v1, w1⟩ := fH hx;obtain ⟨v2, w2⟩ := fH hy;obtain ⟨v3, w3⟩ := fH hz;refine bD r hd (v := .int k (if mx then max (max m n) q else min (min m n) q)) ?_ (iz ?_)
      · cases mx with
        | true =>
          simp only [execOp, ho, resolve, hc, hb, invoke, builtin, Sem.run_bind, Sem.run_pure, Result.andThen_ok, hargs, List.map_toArray, List.map_cons, List.map_nil, Builtin.max_, List.foldlM, v1, v2, v3, Builtin.max2, if_true];simp only [Result.ok.injEq, Next.value.injEq, Value.int.injEq, true_and, and_true, gt_iff_lt]
          (repeat' split) <;> omega
        | false =>
          simp only [execOp, ho, resolve, hc, hb, invoke, builtin, Sem.run_bind, Sem.run_pure, Result.andThen_ok, hargs, List.map_toArray, List.map_cons, List.map_nil, Builtin.min_, List.foldlM, v1, v2, v3, Builtin.min2, Bool.false_eq_true, if_false];simp only [Result.ok.injEq, Next.value.injEq, Value.int.injEq, true_and, and_true]
          (repeat' split) <;> omega
      · cases mx with
        | true => simp only [if_true]; have : max (max m n) q=m\/max (max m n) q=n\/max (max m n) q=q := by omega
                  rcases this with h | h | h <;> rw [h] <;> assumption
        | false => simp only [Bool.false_eq_true, if_false]; have : min (min m n) q=m\/min (min m n) q=n\/min (min m n) q=q := by omega
                   rcases this with h | h | h <;> rw [h] <;> assumption
    · cases h
  · cases h
theorem Cu (zc:Array Value) (n z:Nat) (hz:zc.size=z) {i j:Nat} (hi:i<n) (hj:j<z):(madeCells zc (n * z)).toList[i * z+j]?=zc.toList[j]? := by
 have hlt:i * z+j<n * z:=by
  have:(i+1) * z<=n * z:=Nat.mul_le_mul_right _ hi;rw[Nat.add_mul] at this; omega
 simp [madeCells,hlt,hz,Nat.mul_add_mod_of_lt,Nat.mod_eq_of_lt hj];rw[getElem!_pos zc j (by omega),getElem?_pos zc j (by omega)]
theorem xo {e:Eff} {t:TypeId} {x y:Operand} (r:bP w0 χ0 T0 s a w G) (hd:∀ k,o.dst=some k->k<a.tmps.size) (ho:o.op = .makeSlice t x y) (h:kP P t o.dst (aF s.hp o.dst) [s.ev x,s.ev y]=some e) (hc:e.cond) :
  o.wp P a w (aX w0 χ0 T0 a.tmps.size (s.app o.dst e)) Q:=by
 have hx:=r.ev x;have hy:=r.ev y;unfold kP at h;split at h
 ·rename_i k n k' m heq;simp only[List.cons.injEq,and_true] at heq;rw[heq.1] at hx;rw[heq.2] at hy;split at h
  ·rename_i el z d hel hdst;split at h
   ·rename_i agg ps hz0;split at h
    ·rename_i hcc;obtain⟨hf,hlen⟩:=hcc;simp only[Option.some.injEq] at h;subst h;obtain⟨c1,rfl,c3⟩:=hc;rw[hdst] at hf;have hf':s.hp d=none/\d<1000000:=by simpa [aF] using hf
     have hE:=fe hel;obtain⟨i,zv,hi,hz,hsz,hby,hzs⟩:=hE.ex;obtain⟨hrz,hrow⟩:=rA hz0;have hzv:zv=sS agg ps:=by
      have:=hrz default;simp [zeroValue,typeInfo,hi,hz] at this;exact this
     have hrd:RdL (In G.χ 0) w ps zv.cells.toList:=by
      have h1:=CRd.cells (pU (G:=G) (hp:=s.hp) (w:=w) hrow);rw[← hzv] at h1;unfold ru at h1;cases agg with
      | true=>exact qo h1
      | false =>
       have:=hrow.2 rfl;cases ps with
       | nil=>simp at this
       | cons p r' =>
        cases r' with
        | nil=>exact qo (xs:=[p]) h1
        | cons _ _=>simp at this
     have hb2:(i.bytes:Int) * n<=281474976710656:=by
      have h65:(i.bytes:Int)<=65536:=by omega
      exact Int.le_trans (Int.mul_le_mul h65 c3 c1 (by omega)) (by decide)
     have hrun:=run_make (P:=P) w t el i zv hE.ty hi hz k k' n n c1 (Int.le_refl _) hb2 (by omega);have hv1:=(fH hx).1;have hv2:=(fH hy).1;have hrun':(execOp a.eval o).run P w = .ok (.value (.slice (some ⟨w.heap.size,0,none⟩) n.toNat n.toNat)) (w.alloc (.cells (madeCells zv.cells (n.toNat * z)) el)):=by
      simp only[execOp,ho,hv1,hv2,Sem.run_bind,hrun,Result.andThen_ok,Sem.run_pure,hsz]
     refine mh r hd hf' (.slice (some ⟨w.heap.size,0,none⟩) n.toNat n.toNat) hrun' ⟨rfl,fun j hj=>?_,?_⟩ ⟨?_,fun b hb=>?_⟩
     ·simp [av.ids] at hj; subst hj; rw[aE]; simp
     ·exact (aE G.hv d _).symm
     ·show Own (α:=CZ z) (d+2) _ el _ (Lad.upd G.hv d _ d) (List.replicate n.toNat ps);rw[aE];have hzl:zv.cells.size=z:=hzs;have hml:(madeCells zv.cells (n.toNat * z)).toList.length=n.toNat * z:=by simp [madeCells]
      have hL:(List.replicate n.toNat ps).length=n.toNat:=by simp
      have hLj:∀ (j:Nat) row,(List.replicate n.toNat ps)[j]?=some row->j<n.toNat/\row=ps:=fun j row hj=>by
       have h1:=(List.getElem?_eq_some_iff.1 hj);obtain⟨h2,h3⟩:=h1;simp at h2 h3;exact⟨by omega,h3.symm⟩
      suffices H:∀ L:List (List PV),L.length=n.toNat->(∀ (j:Nat) row,L[j]?=some row->j<n.toNat/\row=ps)->Own (α:=CZ z) (d+2) (G.add d w.heap.size (.slice (some ⟨w.heap.size,0,none⟩) n.toNat n.toNat)).χ el (w.alloc (.cells (madeCells zv.cells (n.toNat * z)) el)) (.slice (some ⟨w.heap.size,0,none⟩) n.toNat n.toNat) L from H _ hL hLj
      clear hL hLj;intro L hL hLj;refine⟨⟨(madeCells zv.cells (n.toNat * z)).toList,jq.of ⟨?_,.inr ⟨w.heap.size,n.toNat,_,?_,Nat.zero_le _,heap_alloc_new w _,?_,?_,?_,?_⟩⟩,fun j row hj=>?_⟩,fun g hg=>?_⟩
      ·rw[hml]; exact congrArg (· * z) hL.symm
      ·exact congrArg (fun q=>Value.slice (some ⟨w.heap.size,0,none⟩) q n.toNat) hL.symm
      ·exact Nat.le_of_eq hL
      ·simp only[maxLen]; omega
      ·simp [madeCells,aA.sz]
      ·have:(madeCells zv.cells (n.toNat * z)).toList.length=L.length * z:=by rw[hml,hL]
       exact List.take_of_length_le (Nat.le_of_eq this)
      ·obtain⟨hjn,hrw⟩:=hLj j row hj;subst hrw;have hch:chunk z j (madeCells zv.cells (n.toNat * z)).toList=zv.cells.toList:=by
        apply List.ext_getElem?;intro q;unfold chunk;rw[List.getElem?_take];split
        ·rename_i hq;rw[List.getElem?_drop,Cu zv.cells n.toNat z hzl hjn hq]
        ·rw[List.getElem?_eq_none (by simp; omega)]
       rw[show aA.sz (CZ z)=z from rfl,hch];exact⟨by simpa using hzl,hrd.frame (Ext.new r.norm hf' _ (.slice (some ⟨w.heap.size,0,none⟩) n.toNat n.toNat) .gone).blk⟩
      ·simp [Value.ownBlock] at hg;subst hg;show (if w.heap.size=w.heap.size then d+2 else _)=d+2;rw[if_pos rfl]
     ·change (Lad.upd G.hv d _ d).ownBlock=some b at hb;rw[aE] at hb;simp [Value.ownBlock] at hb;show b=Lad.upd G.bl d w.heap.size d;rw[aE]; exact hb.symm
    ·cases h
   ·cases h
  ·cases h
 ·cases h
theorem xp:∀ {l:List (List PV)} {m:List UInt8},bytesOf l=some m->∃ xs:List Int,l=xs.map (fun n=>[PV.int .u8 n])/\m=xs.map fun n=>UInt8.ofNat n.toNat
 | [],m,h=>by simp [bytesOf] at h; subst h; exact⟨[],rfl,rfl⟩
 | r::l,m,h=>by
  unfold bytesOf at h;split at h
  ·rename_i b m' h1 h2;injection h with h
   subst h;obtain⟨xs,rfl,rfl⟩:=xp h2;unfold Bd at h1;split at h1
   ·injection h1 with h1
    rename_i n;exact⟨n::xs,rfl,by rw[List.map_cons,h1]⟩
   ·cases h1
  ·cases h
theorem EA {w':World} {v:Value} {y:av} {c:Prop} (r:bP w0 χ0 T0 s a w G) (hd:∀ k,o.dst=some k->k<a.tmps.size)
  (hrun:(execOp a.eval o).run P w = .ok (.value v) w') (h1:w'.os=w.os) (h2:w'.tape=w.tape) (h3:w'.output=w.output) (h4:w.heap.size<=w'.heap.size) (hb:∀ b,b<w.heap.size->w'.heap[b]?=w.heap[b]?) (hy:LRd G s.hp w' y v):o.wp P a w (aX w0 χ0 T0 a.tmps.size (s.app o.dst ⟨c,.x y,[]⟩)) Q:=by
 unfold Oper.wp;rw[hrun];refine⟨Act.jF _ _ _,G,r.upd (T:=[]) (w':=w') (G':=G) (hp':=s.hp) hd ⟨fun b h hl=>⟨h,hb b hl⟩,fun _ _=>rfl,fun _ _=>rfl,fun _ h=>h⟩ ⟨h1,h2,h3,h4,fun _ _ _=>rfl,fun b hl _=>hb b hl⟩ (by simp) (fun b h=>r.norm b (Nat.le_trans h4 h)) (fun i h hi=>.inl ⟨hi,by simp⟩) hy⟩
theorem MK {e:Eff} {src dst:TypeId} {x:Operand} (r:bP w0 χ0 T0 s a w G) (hd:∀ k,o.dst=some k->k<a.tmps.size) (ho:o.op = .convert src dst x)
  (h:Ez P src dst [s.ev x]=some e):o.wp P a w (aX w0 χ0 T0 a.tmps.size (s.app o.dst e)) Q:=by
 unfold Ez at h;split at h
 ·rename_i el hsu hdu;split at h
  ·rename_i heu;split at h
   ·rename_i b heq;simp only[List.cons.injEq,and_true] at heq;have hx:=r.ev x;rw[heq] at hx;have hval:Rd (In G.χ 0) w (.str b) (a.eval x):=(hx:LRd G s.hp w _ _).val;simp only[val,Option.some.injEq] at h;subst h;have hv:a.eval x = .string b/\b.size<=9223372036854775807:=by
     generalize a.eval x=v at hval;cases hval with
     | str h=>exact⟨rfl,h⟩
    have hrun:=Lib.run_convert_string_bytes w src dst el b hsu hdu heu;have hlen:(b.data.toList.map fun c=>[PV.int .u8 (c.toNat:Int)]).length=b.size:=by rw[List.length_map,Array.length_toList]; rfl
    have hcap:=grownCap_ge w b.size 0 el;have hmax:grownCap w b.size 0 el<=9223372036854775807:=grownCap_le_maxLen w b.size 0 el hv.2;refine EA (w':=Lib.bytesWorld w el b) (v := .slice (some ⟨w.heap.size,0,none⟩) b.size (grownCap w b.size 0 el)) r hd ?_ rfl rfl rfl (by rw[Lib.bytesWorld_size]; omega) (fun j hj=>Lib.bytesWorld_at_old w el b j hj) ⟨rfl,by simp [av.ids],?_⟩
    ·simp only[execOp,ho,hv.1,Sem.run_bind,hrun,Result.andThen_ok,Sem.run_pure]
    ·show Rd (In G.χ 0) _ (.sl _) _;by_cases h0:b.data.toList=[]
     ·have hz:b.size=0:=by rw[← hlen,h0]; rfl
      rw[hz] at hmax;rw[h0,hz];exact .sl0 (fun h=>by cases h) hmax
     ·rw[← hlen] at hcap hmax ⊢;refine Rd.sl (z:=1) (fun i _=>.int .u8 ((b.data.toList.getD i 0).toNat:Int)) (by simpa using h0) (r.norm _ (Nat.le_refl _)) (by rw[Lib.bytesWorld_size]; omega) hcap hmax (fun i cs hi=>?_) (fun i j cs p hi hj=>?_) (fun i j cs p hi hj=>?_)
      ·rw[List.getElem?_map,Option.map_eq_some_iff] at hi;obtain⟨c,_,rfl⟩:=hi;rfl
      ·have hil:=(List.getElem?_eq_some_iff.1 hi).1;rw[hlen] at hil;rw[List.getElem?_map,Option.map_eq_some_iff] at hi;obtain⟨c,_,rfl⟩:=hi;cases j with
       | zero=>rw[Nat.zero_add,Nat.mul_one,Nat.add_zero]; exact Lib.bytesWorld_cell w el b i hil
       | succ j=>simp at hj
      ·rw[List.getElem?_map,Option.map_eq_some_iff] at hi;obtain⟨c,hc,rfl⟩:=hi;cases j with
       | zero =>
        simp at hj;subst hj;rw[List.getD_eq_getElem?_getD,hc];refine .int ⟨?_,?_⟩
        ·show (0:Int)<=_; simp
        ·show _<=(255:Int);have:=c.toNat_lt;simp; omega
       | succ j=>simp at hj
   ·cases h
  ·cases h
 ·cases h
theorem ML {e:Eff} {src dst:TypeId} {args:List Slot} (h:Ez P src dst args=some e):e.wr=[]:=by
 unfold Ez at h;split at h
 ·split at h
  ·split at h
   ·simp only[val,Option.some.injEq] at h; rw[← h]
   ·cases h
  ·cases h
 ·cases h
theorem Cv {e:Eff} {src dst:TypeId} {x:Operand} (r:bP w0 χ0 T0 s a w G) (hd:∀ k,o.dst=some k->k<a.tmps.size) (ho:o.op = .convert src dst x) (h:rG P src dst [s.arg x]=some e) (hc:e.cond) :
  o.wp P a w (aX w0 χ0 T0 a.tmps.size (s.app o.dst e)) Q:=by
 unfold rG at h;split at h
 ·rename_i A heq;simp only[List.cons.injEq,and_true] at heq;split at h
  ·rename_i el l hel hdu hl;split at h
   ·rename_i m heu hm;simp only[Option.some.injEq] at h;subst h;obtain⟨xs,rfl,rfl⟩:=xp hm;have hE:=fe hel;obtain⟨B,c,news,hv,n1,n2,n3,n4,n5⟩:=oQ (z:=1) r heq hl (by simp);have hnews:news=xs.map (Value.int .u8):=by
     apply List.ext_getElem?;intro i;rw[List.getElem?_map];cases hx:xs[i]? with
     | none =>
      have:=List.getElem?_eq_none_iff.1 hx;exact List.getElem?_eq_none (by rw[n1]; simpa using this)
     | some n =>
      have hi:=(List.getElem?_eq_some_iff.1 hx).1;have hli:(xs.map (fun n=>[PV.int .u8 n]))[i]?=some [PV.int .u8 n]:=by rw[List.getElem?_map,hx]; rfl
      have hrow:=n3 i (show List PV from[PV.int .u8 n]) hli;have hil:i<news.length:=by rw[n1]; simpa using hi
      have hch:chunk 1 i news=[news[i]]:=by
       unfold chunk;rw[Nat.mul_one,List.drop_eq_getElem_cons hil];rfl
      rw[hch] at hrow;have h1:=hrow.2.2 0 (.int .u8 n) news[i] rfl rfl;rw[List.getElem?_eq_getElem hil];generalize news[i]=v at h1;cases h1;rfl
    have hrun:(convert src dst (a.eval x)).run P w = .ok (.string ⟨(xs.map fun n=>UInt8.ofNat n.toNat).toArray⟩) w:=by
     rw[hv];cases hB:B with
     | none =>
      have h0:=n4 hB;have:xs=[]:=by simpa using h0
      subst this;exact run_convert_bytes_nil w src el hE.ty heu _ _ dst hdu
     | some ad =>
      have hlc:(loadCells ad xs.length).run P w = .ok (xs.map (Value.int .u8)).toArray w:=by
       have:=run_loadCells_list (P:=P) w ad (xs.map (Value.int .u8)) (fun j v hj=>n5 ad hB j v (by rw[hnews]; exact hj))
       simpa using this
      rw[show (List.map (fun n=>[PV.int .u8 n]) xs).length=xs.length by simp,run_convert_bytes_string w src dst el _ _ c hE.ty heu hdu,run_bytesToString w _ _ c xs hlc,foldl_push_bytes];simp [ByteArray.empty,ByteArray.emptyWithCapacity];rfl
    refine bD r hd ?_ (AV ?_)
    ·simp only[execOp,ho,Sem.run_bind,hrun,Result.andThen_ok,Sem.run_pure]
    ·simpa [ByteArray.size] using hc
   ·cases h
  ·cases h
 ·rename_i hno;exact (hno _ rfl).elim
theorem EB {e:Eff} {src dst:TypeId} {x:Operand} (r:bP w0 χ0 T0 s a w G) (hd:∀ k,o.dst=some k->k<a.tmps.size) (ho:o.op = .convert src dst x) (h:nF P src dst [s.arg x]=some e) (hc:e.cond) :
  o.wp P a w (aX w0 χ0 T0 a.tmps.size (s.app o.dst e)) Q:=by
 unfold nF at h;split at h
 ·rename_i heq;injection h with h
  subst h;exact MK r hd ho heq
 ·exact Cv r hd ho h hc
theorem Cw {t:TypeId} {p q:PV} {b:Bool} {F F':Nat->Prop} {u v:Value} (d:Nat) (hk:uX P t p=true) (h:Hw p q=some b) (hu:Rd F w p u) (hv:Rd F' w q v):(Op.equalIn (d+1) t u v).run P w = .ok b w/\fv P t=false/\P.underlying t≠none:=by
 unfold Hw at h;split at h
 ·rename_i k a k' c;split at h
  ·rename_i hkk;subst hkk;simp only[Option.some.injEq] at h;subst h;cases hu;cases hv;unfold uX at hk;dsimp only at hk;split at hk
   ·rename_i hty;refine⟨?_,by unfold fv; rw[hty],by rw[hty]; simp⟩;rw[run_equalIn_int w d t k _ a c hty];congr 1
   ·cases hk
  ·cases h
 ·rename_i a c;simp only[Option.some.injEq] at h;subst h;cases hu;cases hv;unfold uX at hk;dsimp only at hk;split at hk
  ·rename_i hty;refine⟨?_,by unfold fv; rw[hty],by rw[hty]; simp⟩;rw[run_equalIn_string w d t a c hty];congr 1;rw[Bool.eq_iff_iff,beq_iff_eq,decide_eq_true_eq,ByteArray.toList_eq,ByteArray.toList_eq];exact⟨fun h=>ByteArray.ext (Array.ext' h),fun h=>by rw[h]⟩
  ·cases hk
 ·rename_i a c;simp only[Option.some.injEq] at h;subst h;cases hu;cases hv;unfold uX at hk;dsimp only at hk;split at hk
  ·rename_i hty;refine⟨?_,by unfold fv; rw[hty],by rw[hty]; simp⟩;rw[run_equalIn_bool' w d t a c hty]
  ·cases hk
 ·cases h
theorem zI {F F':Nat->Prop} (d:Nat) (us vs:List Value):∀ (fs:List Field) (i:Nat) (ps qs:List PV) (b:Bool),tU P i fs ps=true->ml ps qs=some b ->
  (∀ (j:Nat) p,ps[j]?=some p->∃ u,us[i+j]?=some u/\Rd F w p u)->(∀ (j:Nat) q,qs[j]?=some q->∃ v,vs[i+j]?=some v/\Rd F' w q v)->(Op.eqFields (d+1) us.toArray vs.toArray fs).run P w = .ok b w
 | [],i,[],[],b,_,h,_,_=>by
  simp only[ml,Option.some.injEq] at h;subst h;rfl
 | [],i,[],_::_,b,_,h,_,_=>by cases h
 | [],i,_::_,qs,b,hk,_,_,_=>by cases hk
 | _::_,i,[],qs,b,hk,_,_,_=>by cases hk
 | _::_,i,_::_,[],b,_,h,_,_=>by cases h
 | f::fs,i,p::ps,q::qs,b,hk,h,hu,hv=>by
  unfold tU at hk;simp only[Bool.and_eq_true,decide_eq_true_eq,bne_iff_ne,ne_eq] at hk;obtain⟨⟨⟨ho,hn⟩,hkd⟩,hrest⟩:=hk;unfold ml at h;split at h
  ·rename_i a c ha hc;simp only[Option.some.injEq] at h;subst h;obtain⟨u,hu0,hru⟩:=hu 0 p rfl;obtain⟨v,hv0,hrv⟩:=hv 0 q rfl;rw[Nat.add_zero] at hu0 hv0;obtain⟨e1,e2,e3⟩:=Cw d hkd ha hru hrv;have ih:=zI d us vs fs (i+1) ps qs c hrest hc (fun j p hp=>by
    obtain⟨x,hx⟩:=hu (j+1) p (by simpa using hp);exact⟨x,by rw[show i+1+j=i+(j+1) by omega]; exact hx.1,hx.2⟩) (fun j p hp=>by
    obtain⟨x,hx⟩:=hv (j+1) p (by simpa using hp);exact⟨x,by rw[show i+1+j=i+(j+1) by omega]; exact hx.1,hx.2⟩)
   have p1:(part f.type us.toArray f.offset).run P w = .ok u w:=by rw[ho]; simp [part,fO (t:=f.type) (P:=P) e3,e2,hu0]
   have p2:(part f.type vs.toArray f.offset).run P w = .ok v w:=by rw[ho]; simp [part,fO (t:=f.type) (P:=P) e3,e2,hv0]
   unfold Op.eqFields;rw[if_pos hn];simp only[Sem.run_bind,p1,p2,e1,Result.andThen_ok];cases a with
   | true=>simpa using ih
   | false=>simp
  ·cases h
theorem vV:∀ (n:Nat) (ps qs:List PV) (b:Bool),n<=ps.length->ml ps qs=some b->∃ a c,ml (ps.take n) (qs.take n)=some a/\ml (ps.drop n) (qs.drop n)=some c/\b=(a && c)
 | 0,ps,qs,b,_,h=>⟨true,b,by simp [ml],by simpa using h,by simp⟩
 | n+1,[],qs,b,hn,_=>by simp at hn
 | n+1,p::ps,[],b,_,h=>by cases h
 | n+1,p::ps,q::qs,b,hn,h=>by
  unfold ml at h;split at h
  ·rename_i x y hx hy;simp only[Option.some.injEq] at h;subst h;obtain⟨a,c,h1,h2,rfl⟩:=vV n ps qs y (by simpa using hn) hy;refine⟨x && a,c,?_,by simpa using h2,by rw[Bool.and_assoc]⟩;rw[List.take_succ_cons,List.take_succ_cons];unfold ml;rw[hx,h1]
  ·cases h
theorem tf {F F':Nat->Prop} (d:Nat) (us vs:List Value):∀ (fs:List Field) (i:Nat) (ps qs:List PV) (b:Bool),qu P i fs ps=true->ml ps qs=some b ->
  (∀ (j:Nat) p,ps[j]?=some p->∃ u,us[i+j]?=some u/\Rd F w p u)->(∀ (j:Nat) q,qs[j]?=some q->∃ v,vs[i+j]?=some v/\Rd F' w q v)->(Op.eqFields (d+2) us.toArray vs.toArray fs).run P w = .ok b w
 | [],i,[],[],b,_,h,_,_=>by
  simp only[ml,Option.some.injEq] at h;subst h;rfl
 | [],i,[],_::_,b,_,h,_,_=>by cases h
 | [],i,_::_,qs,b,hk,_,_,_=>by cases hk
 | f::fs,i,ps,qs,b,hk,h,hu,hv=>by
  unfold qu at hk;simp only[Bool.and_eq_true,decide_eq_true_eq,bne_iff_ne,ne_eq] at hk;obtain⟨⟨ho,hn⟩,hk⟩:=hk;split at hk
  ·rename_i gs hst;simp only[Bool.and_eq_true,decide_eq_true_eq,Bool.not_eq_true'] at hk;obtain⟨⟨⟨⟨hlen,hf⟩,hsh⟩,hsz⟩,hrest⟩:=hk;split at hsz
   ·rename_i inf hinf;rw[decide_eq_true_eq] at hsz;obtain⟨a,c,h1,h2,rfl⟩:=vV gs.size ps qs b hlen h;have hat:∀ (zs:List Value) (rs:List PV) (F:Nat->Prop),(∀ (j:Nat) p,rs[j]?=some p->∃ u,zs[i+j]?=some u/\Rd F w p u) ->
      (∀ (j:Nat) p,(rs.take gs.size)[j]?=some p->∃ u,((zs.drop i).take gs.size)[0+j]?=some u/\Rd F w p u):=fun zs rs F hz j p hp=>by
     rw[List.getElem?_take] at hp;split at hp
     ·rename_i hj;obtain⟨u,h3,h4⟩:=hz j p hp;exact⟨u,by rw[Nat.zero_add,List.getElem?_take,if_pos hj,List.getElem?_drop]; exact h3,h4⟩
     ·cases hp
    have hrs:∀ (zs:List Value) (rs:List PV) (F:Nat->Prop),(∀ (j:Nat) p,rs[j]?=some p->∃ u,zs[i+j]?=some u/\Rd F w p u) ->
      (∀ (j:Nat) p,(rs.drop gs.size)[j]?=some p->∃ u,zs[i+gs.size+j]?=some u/\Rd F w p u):=fun zs rs F hz j p hp=>by
     rw[List.getElem?_drop] at hp;obtain⟨u,h3,h4⟩:=hz (gs.size+j) p hp;exact⟨u,by rw[Nat.add_assoc]; exact h3,h4⟩
    have hfs:P.fieldsOf f.type=gs:=by simp [Program.fieldsOf,hst]
    have key:(Op.equalIn (d+2) f.type (.agg ((us.drop i).take gs.size).toArray) (.agg ((vs.drop i).take gs.size).toArray)).run P w = .ok a w:=by
     rw[run_equalIn_struct w (d+1) f.type _ _ (by rw[hfs]; exact hst) hsh,hfs];exact zI d _ _ gs.toList 0 _ _ a hf h1 (hat us ps F hu) (hat vs qs F' hv)
    have hag:fv P f.type=true:=by unfold fv; rw[hst]
    have hp:∀ zs:List Value,(part f.type zs.toArray f.offset).run P w = .ok (.agg ((zs.drop i).take gs.size).toArray) w:=fun zs=>by
     rw[ho];simp [part,fO (t:=f.type) (P:=P) (by rw[hst]; simp),hag,sizeOf,typeInfo,hinf,hsz,List.extract_toArray,List.extract_eq_take_drop]
    have ih:=tf d us vs fs (i+gs.size) _ _ c hrest h2 (hrs us ps F hu) (hrs vs qs F' hv);unfold Op.eqFields;rw[if_pos hn];simp only[Sem.run_bind,hp,key,Result.andThen_ok];cases a with
    | true=>simpa using ih
    | false=>simp
   ·cases hsz
  ·cases ps with
   | nil=>cases hk
   | cons p ps =>
    cases qs with
    | nil=>cases h
    | cons q qs =>
     dsimp only at hk;rw[Bool.and_eq_true] at hk;obtain⟨hkd,hrest⟩:=hk;unfold ml at h;split at h
     ·rename_i a c ha hc;simp only[Option.some.injEq] at h;subst h;obtain⟨u,hu0,hru⟩:=hu 0 p rfl;obtain⟨v,hv0,hrv⟩:=hv 0 q rfl;rw[Nat.add_zero] at hu0 hv0;obtain⟨e1,e2,e3⟩:=Cw (d+1) hkd ha hru hrv;have ih:=tf d us vs fs (i+1) ps qs c hrest hc (fun j p hp=>by
       obtain⟨x,hx⟩:=hu (j+1) p (by simpa using hp);exact⟨x,by rw[show i+1+j=i+(j+1) by omega]; exact hx.1,hx.2⟩) (fun j p hp=>by
       obtain⟨x,hx⟩:=hv (j+1) p (by simpa using hp);exact⟨x,by rw[show i+1+j=i+(j+1) by omega]; exact hx.1,hx.2⟩)
      have p1:(part f.type us.toArray f.offset).run P w = .ok u w:=by rw[ho]; simp [part,fO (t:=f.type) (P:=P) e3,e2,hu0]
      have p2:(part f.type vs.toArray f.offset).run P w = .ok v w:=by rw[ho]; simp [part,fO (t:=f.type) (P:=P) e3,e2,hv0]
      unfold Op.eqFields;rw[if_pos hn];simp only[Sem.run_bind,p1,p2,e1,Result.andThen_ok];cases a with
      | true=>simpa using ih
      | false=>simp
     ·cases h
theorem Jy {e:Eff} {b:BinOp} {t t':TypeId} {x y:Operand} (r:bP w0 χ0 T0 s a w G) (hd:∀ k,o.dst=some k->k<a.tmps.size) (ho:o.op = .binOp b t x y t') (h:rb P b t [s.ev x,s.ev y]=some e) :
  o.wp P a w (aX w0 χ0 T0 a.tmps.size (s.app o.dst e)) Q:=by
 have hx:=r.ev x;have hy:=r.ev y;unfold rb at h;split at h
 ·rename_i xs ys heq;simp only[List.cons.injEq,and_true] at heq;rw[heq.1] at hx;rw[heq.2] at hy;obtain⟨us,hu,hau⟩:=hx;obtain⟨vs,hv,hav⟩:=hy;split at h
  ·rename_i fs hst;split at h
   ·rename_i ps qs hps hqs;rw[tO hps] at hau;rw[tO hqs] at hav;split at h
    ·rename_i hc;simp only[Bool.and_eq_true,Bool.not_eq_true'] at hc;obtain⟨⟨hf,hsh⟩,hg⟩:=hc;have hfs:P.fieldsOf t=fs:=by simp [Program.fieldsOf,hst]
     have key:∀ r,ml ps qs=some r->(Op.equalIn 10000 t (.agg us.toArray) (.agg vs.toArray)).run P w = .ok r w:=fun r hr=>by
      rw[show (10000:Nat)=9999+1 from rfl,run_equalIn_struct w 9999 t _ _ (by rw[hfs]; exact hst) hsh,hfs];refine tf (F:=In G.χ 0) (F':=In G.χ 0) 9997 us vs fs.toList 0 ps qs r hf hr (fun j p hp=>?_) (fun j p hp=>?_)
      ·obtain⟨u,h1,h2⟩:=hau.get (show (ps.map av.p)[j]?=some (.p p) by rw[List.getElem?_map,hp]; rfl);exact⟨u,by rw[Nat.zero_add]; exact h1,h2.val⟩
      ·obtain⟨u,h1,h2⟩:=hav.get (show (qs.map av.p)[j]?=some (.p p) by rw[List.getElem?_map,hp]; rfl);exact⟨u,by rw[Nat.zero_add]; exact h1,h2.val⟩
     have guard:(eqGuard b t x y (a.eval x) (a.eval y)).run P w = .ok () w:=by rw[hu,hv]; exact run_eqGuard_agg w b t x y _ _ hg
     split at h
     ·rename_i rr hr;simp only[val,Option.some.injEq] at h;subst h;rw[hu,hv] at guard;refine bD r hd (v := .bool _) (by simp only[execOp,ho,Sem.run_bind,hu,hv,guard,Result.andThen_ok,run_eql_struct,key _ hr,Sem.run_pure]) ⟨rfl,by simp [av.ids],Rd.bool⟩
     ·rename_i rr hr;simp only[val,Option.some.injEq] at h;subst h;rw[hu,hv] at guard;refine bD r hd (v := .bool _) (by simp only[execOp,ho,Sem.run_bind,hu,hv,guard,Result.andThen_ok,run_neq_struct,key _ hr,Sem.run_pure]) ⟨rfl,by simp [av.ids],Rd.bool⟩
     ·cases h
    ·cases h
   ·cases h
  ·cases h
 ·cases h
theorem MM {e:Eff} {b:BinOp} {t t':TypeId} {x y:Operand} (r:bP w0 χ0 T0 s a w G) (hd:∀ k,o.dst=some k->k<a.tmps.size) (ho:o.op = .binOp b t x y t') (h:Ey b [s.ev x,s.ev y]=some e) (hc:e.cond) :
  o.wp P a w (aX w0 χ0 T0 a.tmps.size (s.app o.dst e)) Q:=by
 have hx:=r.ev x;have hy:=r.ev y;unfold Ey at h;split at h
 ·rename_i k m k2 n heq;simp only[List.cons.injEq,and_true] at heq;rw[heq.1] at hx;rw[heq.2] at hy;have hvx:=(fH hx).1;have hvy:=(fH hy).1;have fin:∀ z:Int,e.wr=[]->e.res=Slot.p (.int k z)->inK k z->(binOp b t (.int k m) (.int k2 n)).run P w = .ok (.int k z) w->(eqGuard b t x y (.int k m) (.int k2 n)).run P w = .ok () w->o.wp P a w (aX w0 χ0 T0 a.tmps.size (s.app o.dst e)) Q:=fun z h1 h2 h3 h4 h5=>by
   obtain⟨c,x',wr⟩:=e;dsimp only at h1 h2;subst h1 h2;exact bD r hd (by simp [execOp,ho,hvx,hvy,h5,h4]) (iz h3)
  split at h
  ·simp only[dQ,Option.some.injEq] at h;subst h;have hc:0<=n:=hc;exact fin _ rfl rfl (lC _ _) (by simp [binOp,Op.shift,MI,Int.not_lt.2 hc]) rfl
  ·simp only[dQ,Option.some.injEq] at h;subst h;have hc:0<=n/\_:=hc;exact fin _ rfl rfl hc.2 (by simp [binOp,Op.shift,Cs,Int.not_lt.2 hc.1]) rfl
  ·split at h
   ·rename_i hk;subst hk;simp only[val,Option.some.injEq] at h;subst h;exact fin _ rfl rfl (lC _ _) (by simp [binOp,Op.intBits,MG]) rfl
   ·cases h
  ·split at h
   ·rename_i hk;subst hk;simp only[val,Option.some.injEq] at h;subst h;exact fin _ rfl rfl (lC _ _) (by simp [binOp,Op.intBits,orI]) rfl
   ·cases h
  ·split at h
   ·rename_i hk;subst hk;simp only[val,Option.some.injEq] at h;subst h;exact fin _ rfl rfl (lC _ _) (by simp [binOp,Op.intBits,MH]) rfl
   ·cases h
  ·split at h
   ·rename_i hk;subst hk;simp only[val,Option.some.injEq] at h;subst h;exact fin _ rfl rfl (lC _ _) (by simp [binOp,Op.intBits,anI]) rfl
   ·cases h
  ·cases h
 ·cases h
theorem Jz {e:Eff} {t:TypeId} {x hi mx:Operand} (r:bP w0 χ0 T0 s a w G) (hd:∀ k,o.dst=some k->k<a.tmps.size) (ho:o.op = .slice t x none (some hi) (some mx))
  (h:ON P t [s.ev x,s.ev hi,s.ev mx]=some e) (hc:e.cond):o.wp P a w (aX w0 χ0 T0 a.tmps.size (s.app o.dst e)) Q:=nomatch h
theorem MN {e:Eff} (r:bP w0 χ0 T0 s a w G) (hd:∀ k,o.dst=some k->k<a.tmps.size) (h:iB P o.op o.dst (aF s.hp o.dst) ((Op.bq o.op).map s.arg)=some e) (hc:e.cond) :
  o.wp P a w (aX w0 χ0 T0 a.tmps.size (s.app o.dst e)) Q:=by
 have hm:((Op.bq o.op).map s.arg).map (·.1)=(Op.bq o.op).map s.ev:=by rw[List.map_map]; rfl
 unfold iB at h;rw[hm] at h;split at h <;> rename_i hop
 ·rw[hop] at h; exact Jw r hd hop h
 ·rw[hop] at h; exact ze r hd hop (by simpa [Op.bq] using h)
 ·rw[hop] at h; exact vU (mx:=false) r hd hop rfl rfl (by simpa [Op.bq] using h)
 ·rw[hop] at h; exact vU (mx:=true) r hd hop rfl rfl (by simpa [Op.bq] using h)
 ·rw[hop] at h; exact xo r hd hop h hc
 ·rw[hop] at h; exact EB r hd hop h hc
 ·rw[hop] at h;unfold zd at h;split at h
  ·rename_i heq;injection h with h
   subst h;exact Jy r hd hop (by simpa [Op.bq] using heq)
  ·split at h
   ·rename_i heq;injection h with h
    subst h;exact MM r hd hop (by simpa [Op.bq] using heq) hc
   ·exact MJ r hd hop (by simpa [Op.bq] using h)
 ·rw[hop] at h; exact Jz r hd hop (by simpa [Op.bq] using h) hc
 ·cases h
end
end Go.Lad
namespace Go.Lad
open Go.RowKit
def qv (z:Nat):List Slot->Option (List (List PV))
 | []=>some []
 | .c c::r=>match iv c.leaves,qv z r with | some ps,some l=>if ps.length=z then some (ps::l) else none | _,_=>none
 | _=>none
def JA (tl:Bool) (l:List (List PV)):av:=if tl then .tl l else .p (.sl l)
def oU (P:Program) (tl:Bool) (t:TypeId) (len:Nat) (is:List Nat) (args:List Slot):Option Eff :=
 match cR P t with
 | some (_,z)=>if is=List.range len/\len<=100/\z<=1000 then match qv z args with | some l=>val (.x (JA tl l)) | none=>none else none
 | _=>none
def MO (a b:Int):Int:=IntKind.i64.wrap (a+b)
def uZ:List Slot->Option Eff
 | [.c (.v (.p (.int .i64 a))),.c (.v (.p (.int .i64 b)))]=>val (.p (.int .i64 (MO a b)))
 | _=>none
def opZ (P:Program) (tl:Bool) (op:Op) (args:List Slot):Option Eff :=
 match op with
 | .buildSlice t n ps=>oU P tl t n (ps.toList.map (·.1)) args
 | .binOp .add _ _ _ _=>uZ args
 | _=>none
section
variable {P:Program} {w0:World} {χ0:Col} {T0:Ctx} {s:St} {a:Act} {w:World} {G:Gh} {o:Oper} {Q:Exit->Act->World->Prop}
theorem Cx {z:Nat}:∀ (xs:List Operand) (l:List (List PV)),bP w0 χ0 T0 s a w G->qv z (xs.map s.ev)=some l->dU (fun row v=>v.cells.size=z/\RdL (In G.χ 0) w row v.cells.toList) l (xs.map a.eval)
 | [],l,r,h=>by simp [qv] at h; subst h; exact⟨rfl,by simp⟩
 | x::xs,l,r,h=>by
  have hx:=r.ev x;rw[List.map_cons] at h;unfold qv at h;split at h
  ·rename_i heq; cases heq
  ·rename_i c rest heq;simp only[List.cons.injEq] at heq;obtain⟨e1,rfl⟩:=heq;rw[e1] at hx;split at h
   ·rename_i ps l' hps hl';split at h
    ·rename_i hz;simp only[Option.some.injEq] at h;subst h;have ih:=Cx xs l' r hl';have hc:=CRd.cells hx;have h2:=w9 hps hc;refine⟨by simp [ih.1],fun i row v hr hv=>?_⟩;cases i with
     | zero =>
      simp at hr hv;subst hr hv;exact⟨by have:=h2.1; simp at this; omega,h2⟩
     | succ i=>exact ih.2 i row v (by simpa using hr) (by simpa using hv)
    ·cases h
   ·cases h
  ·cases h
theorem zJ {x:Obj} {v:Value} {y:av} {c:Prop} (r:bP w0 χ0 T0 s a w G) (hd:∀ k,o.dst=some k->k<a.tmps.size)
  (hrun:(execOp a.eval o).run P w = .ok (.value v) (w.alloc x)) (hy:LRd G s.hp (w.alloc x) y v):o.wp P a w (aX w0 χ0 T0 a.tmps.size (s.app o.dst ⟨c,.x y,[]⟩)) Q:=by
 unfold Oper.wp;rw[hrun];have hb:∀ b,b<w.heap.size->(w.alloc x).heap[b]?=w.heap[b]? := fun b hb=>heap_alloc_old w x hb;refine⟨Act.jF _ _ _,G,r.upd (T:=[]) (w':=w.alloc x) (G':=G) (hp':=s.hp) hd ⟨fun b h hl=>⟨h,hb b hl⟩,fun _ _=>rfl,fun _ _=>rfl,fun _ h=>h⟩ ⟨rfl,rfl,rfl,by simp,fun _ _ _=>rfl,fun b hl _=>hb b hl⟩ (by simp) (r.norm.alloc x) (fun i h hi=>.inl ⟨hi,by simp⟩) hy⟩
theorem Cy {e:Eff} {tl:Bool} {t:TypeId} {n:Nat} {ps:Array (Nat×Operand)} (r:bP w0 χ0 T0 s a w G) (hd:∀ k,o.dst=some k->k<a.tmps.size) (ho:o.op = .buildSlice t n ps)
  (h:oU P tl t n (ps.toList.map (·.1)) ((ps.toList.map (·.2)).map s.ev)=some e):o.wp P a w (aX w0 χ0 T0 a.tmps.size (s.app o.dst e)) Q:=by
 cases hel:cR P t with
 | none=>simp [oU,hel] at h
 | some ez =>
 obtain⟨el,z⟩:=ez;simp only[oU,hel] at h;split at h
 ·rename_i hc;obtain⟨h1,h3,h4⟩:=hc;split at h
  ·rename_i l hl;simp only[val,Option.some.injEq] at h;subst h;have hrd:=Cx _ l r hl;have hE:=fe hel;obtain⟨i,zv,hi,hz,hsz,hby,hzs⟩:=hE.ex;have hn:l.length=n:=by
    have:=congrArg List.length h1;rw[hrd.1]; simpa using this
   have hrun:(execOp a.eval o).run P w = .ok (.value (.slice (some ⟨w.heap.size,0,none⟩) l.length l.length)) (w.alloc (.cells (((ps.toList.map (·.2)).map a.eval).flatMap fun v=>v.cells.toList).toArray el)):=by
    have hlv:((ps.toList.map (·.2)).map a.eval).length=n:=by rw[← hrd.1]; exact hn
    have hvz:∀ v∈(ps.toList.map (·.2)).map a.eval,v.cells.size=z:=fun v hv=>by
     obtain⟨j,hj⟩:=List.mem_iff_getElem?.1 hv;have hlt:j<l.length:=by rw[hrd.1]; exact (List.getElem?_eq_some_iff.1 hj).1
     exact (hrd.2 j _ v (List.getElem?_eq_getElem hlt) hj).1
    have e1:(ps.map fun (i,x)=>(i,a.eval x)).toList=(((ps.toList.map (·.2)).map a.eval).zipIdx 0).map fun x=>(x.2,x.1):=by
     rw[← uU,hlv,← h1,Array.toList_map,List.map_map,List.zip_map']; rfl
    rw[hn];generalize (ps.toList.map (·.2)).map a.eval=vs at *
    have hbs:(Instr.buildSlice t n (ps.map fun (i,x)=>(i,a.eval x))).run P w = .ok (.slice (some ⟨w.heap.size,0,none⟩) n n) (w.alloc (.cells (vs.flatMap fun v=>v.cells.toList).toArray el)):=by
     by_cases hn0:n=0
     ·have hvs:vs=[]:=List.eq_nil_of_length_eq_zero (by rw[hlv,hn0]);subst hvs;subst hn0;have hps:ps = #[]:=by
       have:=congrArg List.length h1
       simpa using this
      subst hps;simp [Instr.buildSlice,run_underlying hE.ty,sizeOf,typeInfo,hi,Instr.fill,newRow];rw[show Array.range 0 = #[] from Array.eq_empty_of_size_eq_zero (by simp)];rw[Array.map_empty]
     ·refine run_buildSlice w t el n _ _ i zv hE.ty hi hz ?_ ?_ ?_
      ·rw[hsz];have:n * z<=100 * 1000:=Nat.mul_le_mul h3 h4;omega
      ·rw[hsz];intro h0;rcases Nat.mul_eq_zero.1 h0 with h0 | h0
       ·exact hn0 h0
       ·have:=hE.pos; omega
      ·rw[e1,hsz];exact Great.fill_whole hE.pos vs _ hvz (by simp [hlv])
    simp only[execOp,ho,Sem.run_bind,hbs,Result.andThen_ok,Sem.run_pure]
   suffices key:Rd (In G.χ 0) (w.alloc (.cells (((ps.toList.map (·.2)).map a.eval).flatMap fun v=>v.cells.toList).toArray el)) (.sl l) (.slice (some ⟨w.heap.size,0,none⟩) l.length l.length) by
    cases tl with
    | false=>exact zJ r hd hrun ⟨rfl,by simp [JA,av.ids],key⟩
    | true=>exact zJ r hd hrun ⟨rfl,by simp [JA,av.ids],key,fun A n c hv=>by injection hv with _ h1 h2; rw[← h1,← h2]⟩
   have hown:Own (α:=CZ z) 0 (fun b=>G.χ b) el (w.alloc (.cells (((ps.toList.map (·.2)).map a.eval).flatMap fun v=>v.cells.toList).toArray el)) (.slice (some ⟨w.heap.size,0,none⟩) l.length l.length) l:=by
    refine zC hE.pos ?_ (by omega) ⟨hrd.1,fun j row v hr hv=>?_⟩
    ·exact r.norm _ (Nat.le_refl _)
    ·obtain⟨q1,q2⟩:=hrd.2 j row v hr hv;exact⟨q1,q2.frame fun b hb hl=>⟨hb,heap_alloc_old w _ hl⟩⟩
   obtain⟨_,_,hv3,hcc,hmm⟩:=hown.form;injection hv3 with _ _ hv3
   obtain⟨⟨xs,hx,hrdx⟩,hcol⟩:=hown;have hz0:aA.sz (CZ z)=z:=rfl;refine Rd.zw (z:=z) ⟨rfl,Nat.le_refl _,by rw[hv3]; exact hmm,by simp,fun hpos=>⟨w.heap.size,0,rfl,fun i row hi=>?_⟩⟩ (.inl hE.pos);refine⟨chunk z i xs,hrdx i row hi,fun j u hu=>⟨r.norm _ (Nat.le_refl _),?_⟩⟩;obtain⟨_,hju⟩:=uR hu;have h3:=hx.cells (g:=w.heap.size) rfl _ u hju;rw[show lB (.slice (some ⟨w.heap.size,0,none⟩) l.length l.length)=0 from rfl,fY,← Nat.add_assoc] at h3;exact h3
  ·cases h
 ·cases h
theorem Hy {e:Eff} {t t':TypeId} {x y:Operand} (r:bP w0 χ0 T0 s a w G) (hd:∀ k,o.dst=some k->k<a.tmps.size) (ho:o.op = .binOp .add t x y t') (h:uZ [s.ev x,s.ev y]=some e) :
  o.wp P a w (aX w0 χ0 T0 a.tmps.size (s.app o.dst e)) Q:=by
 have hx:=r.ev x;have hy:=r.ev y;unfold uZ at h;split at h
 ·rename_i m n heq;simp only[List.cons.injEq,and_true] at heq;rw[heq.1] at hx;rw[heq.2] at hy;have hvx:=(fH hx).1;have hvy:=(fH hy).1;simp only[val,Option.some.injEq] at h;subst h;have h4:(binOp .add t (.int .i64 m) (.int .i64 n)).run P w = .ok (.int .i64 (MO m n)) w:=by simp [binOp,Op.intArith,MO]
  have h5:(eqGuard .add t x y (.int .i64 m) (.int .i64 n)).run P w = .ok () w:=rfl;exact bD r hd (by simp [execOp,ho,hvx,hvy,h5,h4]) (iz (lC _ _))
 ·cases h
theorem JB {e:Eff} {tl:Bool} {args:List Slot} {op:Op} (h:opZ P tl op args=some e):e.wr=[]:=by
 unfold opZ at h;split at h
 ·unfold oU at h;split at h
  ·split at h
   ·split at h
    ·simp only[val,Option.some.injEq] at h; rw[← h]
    ·cases h
   ·cases h
  ·cases h
 ·unfold uZ at h;split at h
  ·simp only[val,Option.some.injEq] at h; rw[← h]
  ·cases h
 ·cases h
theorem Pn {e:Eff} {tl:Bool} (r:bP w0 χ0 T0 s a w G) (hd:∀ k,o.dst=some k->k<a.tmps.size) (h:opZ P tl o.op ((Op.bq o.op).map s.ev)=some e):o.wp P a w (aX w0 χ0 T0 a.tmps.size (s.app o.dst e)) Q:=by
 unfold opZ at h;split at h
 ·rename_i t n ps hop;rw[hop] at h;exact Cy r hd hop h
 ·rename_i hop;rw[hop] at h;exact Hy r hd hop h
 ·cases h
end
end Go.Lad
