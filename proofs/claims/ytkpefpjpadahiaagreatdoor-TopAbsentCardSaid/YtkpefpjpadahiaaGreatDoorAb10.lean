import Derived.Test.YtkpefpjpadahiaaGreatDoorAb9
import Derived.Deep.LoopGhost
import Derived.Scope
namespace Go.Lad
set_option linter.unusedVariables false
set_option linter.unusedSimpArgs false
open Go.RowKit
inductive Rz where
 | one (c:Cmp)
 | tup (l:List Cmp)
def Rz.eH:Rz->List Cmp
 | .one c=>[c]
 | .tup l=>l
def Rz.val:Rz->Value->List Value->Prop
 | .one _,v,us=>us=[v]
 | .tup _,v,us=>v = .tuple us.toArray
structure nw where
 args:List Slot
 hps:List (Nat×df)
 res:Rz
 kb:List (Nat×df)
def hpL (l:List (Nat×df)):Hp:=fun o=>aq l o
def gP (P:Program) (f:FuncId) (S:nw):Prop :=
 ∀ (w:World) (G:Gh) (vs:List Value),Norm G.χ w->xu G.χ w->eu (SRd G (hpL S.hps) w) S.args vs->(∀ o h,hpL S.hps o=some h->HRd G (hpL S.hps) w o h) ->
  Calls P f vs.toArray w fun e w'=>∃ (G':Gh) (v:Value) (us:List Value),e = .returned v/\S.res.val v us/\w'.os=w.os/\w'.tape=w.tape/\w'.output=w.output/\w.heap.size<=w'.heap.size /\
   (∀ b,b<w.heap.size->G.χ b<=1->w'.heap[b]?=w.heap[b]?/\G'.χ b=G.χ b)/\(∀ b,2<=G'.χ b->2<=G.χ b\/w.heap.size<=b)/\(∀ o,1000000<=o->G'.bl o=G.bl o/\G'.hv o=G.hv o)/\Norm G'.χ w' /\
   eu (CRd G' (hpL S.kb) w') S.res.eH us/\(∀ o h,hpL S.kb o=some h->HRd G' (hpL S.kb) w' o h)
def lG (P:Program) (f:FuncId):Bool :=
 match P.funcs[f]? with
 | some fn=>fn.name != "runtime.NumGoroutine" && fn.body.isSome
 | none=>false
structure Opt where
 js:List Nat:=[]
 hs:List Nat:=[]
 vs:List Nat:=[]
 fz:List Nat:=[]
 mv:List Nat:=[]
 bx:List Nat:=[]
 nt:Nat:=0
def rnN (ρ:List (Nat×Nat)) (o:Nat):Nat:=(aq ρ o).getD o
def rnL (ρ:List (Nat×Nat)):aJ->aJ
 | .loc o f=>.loc (rnN ρ o) f
 | .own o=>.own (rnN ρ o)
 | .el o i f z=>.el (rnN ρ o) i f z
 | .mp o=>.mp (rnN ρ o)
 | .fn f caps=>.fn f (caps.map (rnN ρ))
 | .sv o a b z=>.sv (rnN ρ o) a b z
 | .ps o=>.ps (rnN ρ o)
 | x=>x
def rnC (ρ:List (Nat×Nat)):Cmp->Cmp
 | .v x=>.v (rnL ρ x)
 | .g xs=>.g (xs.map (rnL ρ))
def rnH (ρ:List (Nat×Nat)):df->df
 | .box t cs=>.box t (cs.map (rnL ρ))
 | .lit t cs=>.lit t (cs.map (rnL ρ))
 | .ql _ _ _ _ _=>.gone
 | h=>h
def rnZ (ρ:List (Nat×Nat)):Rz->Slot
 | .one c=>.c (rnC ρ c)
 | .tup l=>.t (l.map (rnC ρ))
def flL:aJ->Prop
 | .p p=>p.flat=true
 | .ip _ _=>False
 | .tl _=>False
 | _=>True
def flH:df->Prop
 | .box _ cs=>∀ x∈cs,flL x
 | .arr _ _ l=>∀ row∈l,∀ p∈row,p.flat=true
 | .kV _ _ _ m _=>∀ y∈m,∀ row∈y.2,∀ p∈row,p.flat=true
 | .fa _ m=>∀ y∈m,∀ p∈y.2,p.flat=true
 | .lit _ cs=>∀ x∈cs,flL x
 | _=>True
def xC (S:nw):Prop:=(∀ c∈S.res.eH,∀ x∈c.leaves,flL x)/\∀ x∈S.kb,flH x.2
def tD (σ:Ren) (s:St) (hps:List (Nat×df)):List Slot->List Slot->Prop
 | [],[]=>True
 | x::xs,y::ys=>o9 σ s hps x y/\tD σ s hps xs ys
 | _,_=>False
def jb (o:Oper) (k:Nat):Prop := ∃ d m:Nat,o.dst=some d/\k=d+10000 * m
def mB (Γ:Opt) (o:Oper):Bool:=match o.dst with | some d=>!Γ.hs.contains d | none=>false
def nW (Γ:Opt) (o:Oper):Bool:=match o.dst with | some d=>Γ.hs.contains (d+1000000) | none=>false
def lB (Γ:Opt) (o:Oper) (i:Nat):Bool:=match o.dst with | some d=>Γ.hs.contains (d+1000000 * (i+2)) | none=>false
def ga (s:St) (c:Call) (f:Nat) (caps:List Nat):List Slot:=if f % 2=0 then c.args.toList.map s.ev++caps.map fun o=>.c (.v (.loc o 0)) else (caps.map fun o=>.c (.v (.loc o 0)))++c.args.toList.map s.ev
def aJ.pc:aJ->Bool
 | .ip _ _=>true
 | _=>false
def Slot.lvs:Slot->List aJ
 | .dead=>[]
 | .c x=>x.leaves
 | .t l=>l.flatMap Cmp.leaves
structure Hw (Γ:Opt) (s:St) (o:Oper) (args:List Slot) (S:nw) (τ:List (Nat×Nat)) (vw:List Nat) (news:List (Nat×Nat)):Prop where
 lt:mB Γ o=true->∀ x∈args,∀ i∈x.ids,s.hp i≠none/\∀ e cs,s.hp i≠some (.lit e cs)
 args:tD ⟨τ,some vw,false⟩ s S.hps args S.args
 iA:nj (HSub ⟨τ,some vw,false⟩ s S.hps) S.hps
 nd0:(Ren.mk τ (some vw) false).nodup
 nd1:((τ.map (fun x=>(x.2,x.1))++news).map (·.1)).Nodup
 nd2:((τ.map (fun x=>(x.2,x.1))++news).map (·.2)).Nodup
 nd3:(S.kb.map (·.1)).Nodup
 tau:nj (fun x=>1000000<=x.2/\s.hp x.1≠none/\aq S.kb x.2≠none) τ
 dom:nj (fun x=>aq (τ.map (fun x=>(x.2,x.1))++news) x.1≠none) S.kb
 fresh:nj (fun x=>s.hp x.2=none/\x.2<1000000/\jb o x.2) news
 flat:vw=[]\/xC S
 pure:mB Γ o=true->τ=[]/\∀ y∈S.args,∀ l∈y.lvs,l.pc=false
def um (o:Oper) (S:nw) (ρ:List (Nat×Nat)):Eff :=
 ⟨True,match o.dst with | some _=>rnZ ρ S.res | none=>.dead,S.kb.map fun x=>(rnN ρ x.1,rnH ρ x.2)⟩
def jk (P:Program) (Γ:Opt) (s:St) (o:Oper) (e:Eff):Prop :=
 ∃ (c:Call) (fo:Operand) (f:FuncId) (caps:List Nat) (S:nw) (τ:List (Nat×Nat)) (vw:List Nat) (news:List (Nat×Nat)),
  o.op = .call c/\c.callee = .value fo/\s.ev fo = .c (.v (.fn f caps))/\lG P (f / 2)=true/\gP P (f / 2) S/\Hw Γ s o (ga s c f caps) S τ vw news/\(∀ x∈(um o S (τ.map (fun x=>(x.2,x.1))++news)).wr,(nW Γ o || lB Γ o x.1)=true->s.hp x.1=none\/s.hp x.1=some x.2)/\e=um o S (τ.map (fun x=>(x.2,x.1))++news)
theorem ve (hp:Hp):∀ (l:List (Nat×df)) (o:Nat),(l.map (·.1)).Nodup->eM hp l o=match aq l o with | some h=>some h | none=>hp o
 | [],o,_=>rfl
 | x::l,o,hn=>by
  rw[List.map_cons,List.nodup_cons] at hn;show eM (Lad.upd hp x.1 (some x.2)) l o=_;rw[ve _ l o hn.2,show aq (x::l) o=if o=x.1 then some x.2 else aq l o from rfl];by_cases h:o=x.1
  ·subst h;rw[if_pos rfl,mA hn.1];exact bP _ _ _
  ·rw[if_neg h];cases aq l o with
   | some v=>rfl
   | none=>exact fZ _ _ h
theorem rm {P:Program} {w:World} {f:FuncId} {args:Array Value} (h:lG P f=true):(callFunc f args).run P w = .ok (.enter f args) w:=by
 unfold lG at h;split at h
 ·rename_i fn hf;simp only[Bool.and_eq_true,bne_iff_ne,ne_eq] at h;have hb:¬ fn.body=none:=fun h0=>by rw[h0] at h; simp at h
  simp [callFunc,hf,h.1,hb]
 ·cases h
section
variable {P:Program} {Γ:Opt} {w0:World} {χ0:Col} {T0:Ctx} {s:St} {a:Act} {w:World} {G:Gh} {o:Oper} {Q:Exit->Act->World->Prop}
theorem Ay {σ:Ren} {hps:List (Nat×df)} (hσ:σ.nodup) (ho:∀ o h,s.hp o=some h->HRd G s.hp w o h):∀ {xs ys:List Slot} {vs:List Value},eu (SRd G s.hp w) xs vs->tD σ s hps xs ys->eu (SRd (eB σ G) (hpL hps) w) ys vs
 | [],[],vs,h,_=>⟨by simpa using h.1,by simp⟩
 | [],_::_,_,_,h=>h.elim
 | _::_,[],_,_,h=>h.elim
 | x::xs,y::ys,vs,h,hs=>by
  cases vs with
  | nil=>have:=h.1; simp at this
  | cons v vs =>
   have ih:=Ay hσ ho (xs:=xs) (ys:=ys) (vs:=vs) ⟨by have:=h.1; simpa using this,fun i a b ha hb=>h.2 (i+1) a b (by simpa using ha) (by simpa using hb)⟩ hs.2;refine⟨by simp [ih.1],fun i a b ha hb=>?_⟩;cases i with
   | zero=>simp at ha hb; subst ha hb; exact Ee hσ ho (h.2 0 _ _ rfl rfl) hs.1
   | succ i=>exact ih.2 i a b (by simpa using ha) (by simpa using hb)
open Classical in
noncomputable def Hy (hp : Hp) (G : Gh) (n : Nat) (G' : Gh) (τ ρ : List (Nat×Nat)) : Gh :=
  { χ := fun b => if b<n /\ ¬ (2<=G.χ b/\aq τ (G.χ b-2)≠none) then G.χ b else if G'.χ b<=1 then G'.χ b else match aq ρ (G'.χ b-2) with | some o => o+2 | none => 1,
    bl := fun o => if hp o≠none\/1000000<=o then G.bl o else match aq (ρ.map fun x => (x.2, x.1)) o with | some o2 => G'.bl o2 | none => 0,
    hv := fun o => if hp o≠none\/1000000<=o then G.hv o else match aq (ρ.map fun x => (x.2, x.1)) o with | some o2 => G'.hv o2 | none => undef }
theorem Kq {e:Eff} (r:cI w0 χ0 T0 s a w G) (hd:∀ k,o.dst=some k->k<a.tmps.size) (h:jk P Γ s o e):o.wp P a w (bG w0 χ0 T0 a.tmps.size (s.app o.dst e)) Q:=by
 obtain⟨c,fo,f,caps,S,τ,vw,news,ho,hcal,hfo,hcb,hmeets,hok,hkp,rfl⟩:=h;have hfv:=r.ev fo;rw[hfo] at hfv;have hfe:a.eval fo=fnV f (caps.map fun o=>ptr (G.bl o) 0):=LRd.val hfv;have hcaps:∀ o∈caps,s.hp o≠none:=fun o ho=>LRd.ids hfv o ho
 let vs:List Value:=if f % 2=0 then c.args.toList.map a.eval++caps.map fun o=>ptr (G.bl o) 0 else (caps.map fun o=>ptr (G.bl o) 0)++c.args.toList.map a.eval
 have hrun:(execOp a.eval o).run P w = .ok (.enter (f / 2) vs.toArray) w:=by
  by_cases hf2:f % 2=0
  ·have hfe2:a.eval fo = .func (.func (f / 2)) #[] (caps.map fun o=>ptr (G.bl o) 0).toArray:=by rw[hfe]; unfold fnV; rw[if_pos hf2]
   simp only[execOp,ho,resolve,hcal,hfe2,Deferred.ofValue,invoke,Sem.run_bind,Sem.run_pure,Result.andThen_ok];have e1:(#[]++Array.map a.eval c.args)++(caps.map fun o=>ptr (G.bl o) 0).toArray=vs.toArray:=by
    apply Array.ext'; simp [vs,hf2]
   rw[e1];exact rm hcb
  ·have hfe2:a.eval fo = .func (.func (f / 2)) (caps.map fun o=>ptr (G.bl o) 0).toArray #[]:=by rw[hfe]; unfold fnV; rw[if_neg hf2]
   simp only[execOp,ho,resolve,hcal,hfe2,Deferred.ofValue,invoke,Sem.run_bind,Sem.run_pure,Result.andThen_ok];have e1:((caps.map fun o=>ptr (G.bl o) 0).toArray++Array.map a.eval c.args) ++ #[]=vs.toArray:=by
    apply Array.ext'; simp [vs,hf2]
   rw[e1];exact rm hcb
 let σ:Ren:=⟨τ,some vw,false⟩
 let ρ:=τ.map (fun x=>(x.2,x.1))++news
 have hσ:σ.nodup:=hok.nd0;have hargs0:eu (SRd G s.hp w) (ga s c f caps) vs:=by
  have ha1:eu (SRd G s.hp w) (c.args.toList.map s.ev) (c.args.toList.map a.eval):=by
   refine⟨by simp,fun i x v hx hv=>?_⟩;rw[List.getElem?_map,Option.map_eq_some_iff] at hx hv;obtain⟨y,hy,rfl⟩:=hx;obtain⟨y',hy',rfl⟩:=hv;rw[hy] at hy';injection hy' with hy'
   subst hy';exact r.ev y
  have ha2:eu (SRd G s.hp w) (caps.map fun o=>Slot.c (.v (.loc o 0))) (caps.map fun o=>ptr (G.bl o) 0):=by
   refine⟨by simp,fun i x v hx hv=>?_⟩;rw[List.getElem?_map,Option.map_eq_some_iff] at hx hv;obtain⟨y,hy,rfl⟩:=hx;obtain⟨y',hy',rfl⟩:=hv;rw[hy] at hy';injection hy' with hy'
   subst hy';exact⟨rfl,fun j hj=>by simp [aJ.ids] at hj; subst hj; exact hcaps _ (List.mem_of_getElem? hy),rfl⟩
  unfold ga;show eu _ _ (if f % 2=0 then _ else _);by_cases hf2:f % 2=0
  ·rw[if_pos hf2,if_pos hf2]; exact eu.append ha1 ha2
  ·rw[if_neg hf2,if_neg hf2]; exact eu.append ha2 ha1
 have hargs:=Ay hσ r.iA hargs0 hok.args;have hobjs:∀ o h,hpL S.hps o=some h->HRd (eB σ G) (hpL S.hps) w o h:=fun o2 h2 hl=>yN (q:=(o2,h2)) hσ r.iA (fv hok.iA _ (dD hl));have hnc:Norm (eB σ G).χ w:=fun b hb=>jj (r.norm b hb);unfold Oper.wp;rw[hrun];have hgc:xu (eB σ G).χ w:=fun g h=>⟨jj (r.Af g h).1,(r.Af g h).2⟩;refine (hmeets w (eB σ G) vs hnc hgc hargs hobjs).mono ?_;rintro e w' ⟨G',v,us,rfl,hval,q1,q2,q3,q4,q5,q6,q7,q8,q9,q10⟩;have hρ:∀ o2 o,(o2,o)∈ρ->aq ρ o2=some o/\aq (ρ.map fun x=>(x.2,x.1)) o=some o2:=fun o2 o h =>
  ⟨dw hok.nd1 h,dw (by rw[List.map_map]; exact hok.nd2) (List.mem_map.2 ⟨(o2,o),h,rfl⟩)⟩
 let G'':=Hy s.hp G w.heap.size G' τ ρ
 have hpassed:∀ b,b<w.heap.size -> ¬ (2<=G.χ b/\aq τ (G.χ b-2)≠none)->(eB σ G).χ b<=1:=fun b _ hb=>by
  rcases Nat.lt_or_ge 1 ((eB σ G).χ b) with h1 | h1
  ·exact absurd (CH h1) hb
  ·exact h1
 have hχold:∀ b,b<w.heap.size -> ¬ (2<=G.χ b/\aq τ (G.χ b-2)≠none)->G''.χ b=G.χ b:=fun b hb hp=>if_pos ⟨hb,hp⟩;have hχnew:∀ b,¬ (b<w.heap.size /\ ¬ (2<=G.χ b/\aq τ (G.χ b-2)≠none))->G''.χ b=(if G'.χ b<=1 then G'.χ b else match aq ρ (G'.χ b-2) with | some o=>o+2 | none=>1):=fun b hp=>if_neg hp;have hown:∀ o2 o b,(o2,o)∈ρ->G'.χ b=o2+2->G''.χ b=o+2:=fun o2 o b hm hb=>by
  have hnp:¬ (b<w.heap.size /\ ¬ (2<=G.χ b/\aq τ (G.χ b-2)≠none)):=fun⟨h1,h2⟩=>by
   have h3:=hpassed b h1 h2;have h4:=(q5 b h1 h3).2;omega
  rw[hχnew b hnp,if_neg (by omega),hb,Nat.add_sub_cancel,(hρ o2 o hm).1]
 have hlow:∀ o2 o,(o2,o)∈ρ->(∃ x∈τ,x=(o,o2))\/(s.hp o=none/\o<1000000):=fun o2 o hm=>by
  rcases List.mem_append.1 hm with hm | hm
  ·obtain⟨x,hx,he⟩:=List.mem_map.1 hm;injection he with e1 e2
   exact .inl ⟨x,hx,by cases x; simp_all⟩
  ·have:=fv hok.fresh _ hm;exact .inr ⟨this.1,this.2.1⟩
 have hbl:∀ o2 o,(o2,o)∈ρ->G''.bl o=G'.bl o2/\G''.hv o=G'.hv o2:=fun o2 o hm=>by
  rcases hlow o2 o hm with⟨x,hx,rfl⟩ | ⟨h1,h2⟩
  ·obtain⟨t1,t2,t3⟩:=fv hok.tau _ hx;obtain⟨p1,p2⟩:=q7 o2 t1;refine⟨?_,?_⟩
   ·rw[p1,gO hσ hx]; exact if_pos (.inl t2)
   ·rw[p2,pb hσ hx]; exact if_pos (.inl t2)
  ·have hn:¬ (s.hp o≠none\/1000000<=o):=fun h=>h.elim (fun h=>h h1) fun h=>by omega
   refine⟨?_,?_⟩
   ·exact (if_neg hn).trans (by rw[(hρ o2 o hm).2])
   ·exact (if_neg hn).trans (by rw[(hρ o2 o hm).2])
 have hdom:∀ o2 h2,aq S.kb o2=some h2->(o2,rnN ρ o2)∈ρ:=fun o2 h2 hl=>by
  have:=fv hok.dom _ (dD hl);cases hr:aq ρ o2 with
  | none=>exact absurd hr this
  | some o=>unfold rnN; rw[hr]; exact dD hr
 let wr:=S.kb.map fun x=>(rnN ρ x.1,rnH ρ x.2)
 have hinj:∀ x∈S.kb,∀ y∈S.kb,rnN ρ x.1=rnN ρ y.1->x.1=y.1:=fun x hx y hy he=>by
  have h1:=hdom x.1 x.2 (dw hok.nd3 hx);have h2:=hdom y.1 y.2 (dw hok.nd3 hy);rw[← he] at h2;have h3:=(hρ _ _ h1).2;have h4:=(hρ _ _ h2).2;rw[h3] at h4;injection h4
 have hwrn:(wr.map (·.1)).Nodup:=by
  have e:wr.map (·.1)=(S.kb.map (·.1)).map (rnN ρ):=by simp [wr,List.map_map,Function.comp_def]
  rw[e];rw[List.Nodup,List.pairwise_map,List.pairwise_map];have h0:=hok.nd3;rw[List.Nodup,List.pairwise_map] at h0;exact h0.imp_of_mem fun {x y} hx hy hne he=>hne (hinj x hx y hy he)
 have hlk:∀ o,eM s.hp wr o=match aq wr o with | some h=>some h | none=>s.hp o:=fun o=>ve s.hp wr o hwrn
 have hput:∀ o2 h2,aq S.kb o2=some h2->eM s.hp wr (rnN ρ o2)=some (rnH ρ h2):=fun o2 h2 hl=>by
  rw[hlk,dw hwrn (List.mem_map.2 ⟨(o2,h2),dD hl,rfl⟩)]
 have hzero:vw=[]->∀ b,G'.χ b=0->G''.χ b=0:=fun hv b hb=>by
  by_cases hp:b<w.heap.size /\ ¬ (2<=G.χ b/\aq τ (G.χ b-2)≠none)
  ·rw[hχold b hp.1 hp.2];have h3:=hpassed b hp.1 hp.2;have h4:=(q5 b hp.1 h3).2;rw[hb] at h4;rcases Nat.lt_or_ge 1 (G.χ b) with h5 | h5
   ·have h6:(eB σ G).χ b=0:=h4.symm;have h7:(if G.χ b<=1 then G.χ b else match aq τ (G.χ b-2) with | some o2=>o2+2 | none=>(if G.χ b-2∈vw then 0 else 1))=0:=h6;rw[if_neg (by omega)] at h7;cases hl:aq τ (G.χ b-2) with
    | some o2=>rw[hl] at h7; simp at h7
    | none=>rw[hl,hv] at h7; simp at h7
   ·have h6:(eB σ G).χ b=G.χ b:=if_pos h5;rw[← h6,← h4]
  ·rw[hχnew b hp,if_pos (by omega)]; exact hb
 have hrd:∀ p u,(xC S->p.flat=true)->Rd (In G'.χ 0) w' p u->Rd (In G''.χ 0) w' p u:=fun p u hpf h=>by
  rcases hok.flat with hv | hf
  ·exact Rd.frame (fun i hi _=>⟨hzero hv i hi,rfl⟩) h
  ·exact Rd.of_flat h (hpf hf)
 have hids:∀ o2,aq S.kb o2≠none->eM s.hp wr (rnN ρ o2)≠none:=fun o2 hn=>by
  cases hl:aq S.kb o2 with
  | none=>exact absurd hl hn
  | some h2=>rw[hput o2 h2 hl]; simp
 have hb2:∀ o2,aq S.kb o2≠none->G''.bl (rnN ρ o2)=G'.bl o2/\G''.hv (rnN ρ o2)=G'.hv o2:=fun o2 hn=>by
  cases hl:aq S.kb o2 with
  | none=>exact absurd hl hn
  | some h2=>exact hbl _ _ (hdom o2 h2 hl)
 have hleaf:∀ x u,(xC S->flL x)->LRd G' (hpL S.kb) w' x u->LRd G'' (eM s.hp wr) w' (rnL ρ x) u:=fun x u hfl h=>by
  have hv:=h.val;have hi:=h.ids;cases x with
  | dead=>exact⟨h.one,by simp [rnL,aJ.ids],trivial⟩
  | p p=>exact⟨h.one,by simp [rnL,aJ.ids],hrd p u hfl hv⟩
  | nil=>exact⟨h.one,by simp [rnL,aJ.ids],hv⟩
  | loc o2 off =>
   have h1:=hi o2 (by simp [aJ.ids]);refine⟨h.one,fun j hj=>?_,?_⟩
   ·simp [rnL,aJ.ids] at hj; subst hj; exact hids o2 h1
   ·show u=ptr (G''.bl (rnN ρ o2)) off;rw[(hb2 o2 h1).1]; exact hv
  | own o2 =>
   have h1:=hi o2 (by simp [aJ.ids]);refine⟨h.one,fun j hj=>?_,?_⟩
   ·simp [rnL,aJ.ids] at hj; subst hj; exact hids o2 h1
   ·show u=G''.hv (rnN ρ o2);rw[(hb2 o2 h1).2]; exact hv
  | el o2 i off z =>
   have h1:=hi o2 (by simp [aJ.ids]);refine⟨h.one,fun j hj=>?_,?_⟩
   ·simp [rnL,aJ.ids] at hj; subst hj; exact hids o2 h1
   ·show u=ptr (G''.bl (rnN ρ o2)) (mu (G''.hv (rnN ρ o2))+_);rw[(hb2 o2 h1).1,(hb2 o2 h1).2]; exact hv
  | ip cs off =>
   obtain⟨b,off0,g1,g2,g3,g4⟩:=hv;rcases hok.flat with hvw | hf
   ·refine⟨h.one,by simp [rnL,aJ.ids],b,off0,g1,hzero hvw b g2,g3,fun j p hj=>?_⟩;obtain⟨u',hu',hr⟩:=g4 j p hj;exact⟨u',hu',Rd.frame (fun i hi _=>⟨hzero hvw i hi,rfl⟩) hr⟩
   ·exact (hfl hf).elim
  | mp o2 =>
   have h1:=hi o2 (by simp [aJ.ids]);refine⟨h.one,fun j hj=>?_,?_⟩
   ·simp [rnL,aJ.ids] at hj; subst hj; exact hids o2 h1
   ·show u = .map (some (G''.bl (rnN ρ o2)));rw[(hb2 o2 h1).1]; exact hv
  | fn f' caps' =>
   refine⟨h.one,fun j hj=>?_,?_⟩
   ·simp only[rnL,aJ.ids,List.mem_map] at hj;obtain⟨o2,ho2,rfl⟩:=hj;exact hids o2 (hi o2 ho2)
   ·show u=fnV f' ((caps'.map (rnN ρ)).map fun o=>ptr (G''.bl o) 0);have:(caps'.map (rnN ρ)).map (fun o=>ptr (G''.bl o) 0)=caps'.map fun o=>ptr (G'.bl o) 0:=by
     rw[List.map_map];exact List.map_congr_left fun o2 ho2=>by rw[Function.comp,(hb2 o2 (hi o2 ho2)).1]
    rw[this]; exact hv
  | nb pos l=>exact⟨h.one,by simp [rnL,aJ.ids],hv⟩
  | tl l =>
   rcases hok.flat with hvw | hf
   ·exact⟨h.one,by simp [rnL,aJ.ids],Rd.frame (fun i hi _=>⟨hzero hvw i hi,rfl⟩) hv.1,hv.2⟩
   ·exact (hfl hf).elim
  | ps o2 =>
   have h1:=hi o2 (by simp [aJ.ids]);refine⟨h.one,fun j hj=>?_,?_⟩
   ·simp [rnL,aJ.ids] at hj; subst hj; exact hids o2 h1
   ·show u = .pointer none\/u=ptr (G''.bl (rnN ρ o2)) 0;rw[(hb2 o2 h1).1]; exact hv
  | sv o2 i j z =>
   have h1:=hi o2 (by simp [aJ.ids]);refine⟨h.one,fun j hj=>?_,?_⟩
   ·simp [rnL,aJ.ids] at hj; subst hj; exact hids o2 h1
   ·obtain⟨A,n,c',g1,g2⟩:=hv;exact⟨A,n,c',by rw[(hb2 o2 h1).2]; exact g1,g2⟩
 have hleaves:∀ xs vs,(xC S->∀ x∈xs,flL x)->eu (LRd G' (hpL S.kb) w') xs vs->eu (LRd G'' (eM s.hp wr) w') (xs.map (rnL ρ)) vs:=fun xs vs hfl h=>by
  refine⟨by simpa using h.1,fun i x u hx hu=>?_⟩;rw[List.getElem?_map,Option.map_eq_some_iff] at hx;obtain⟨y,hy,rfl⟩:=hx;exact hleaf y u (fun hf=>hfl hf y (List.mem_of_getElem? hy)) (h.2 i y u hy hu)
 have hcmp:∀ c u,(xC S->∀ x∈c.leaves,flL x)->CRd G' (hpL S.kb) w' c u->CRd G'' (eM s.hp wr) w' (rnC ρ c) u:=fun c u hfl h=>by
  cases c with
  | v x=>exact hleaf x u (fun hf=>hfl hf x (by simp [Cmp.leaves])) h
  | g xs=>obtain⟨vs,h1,h2⟩:=h; exact⟨vs,h1,hleaves xs vs hfl h2⟩
 have hobj:∀ o2 h2,aq S.kb o2=some h2->HRd G'' (eM s.hp wr) w' (rnN ρ o2) (rnH ρ h2):=fun o2 h2 hl=>by
  have h:=q10 o2 h2 hl;have hm:=hdom o2 h2 hl;have hfl:xC S->flH h2:=fun hf=>hf.2 _ (dD hl);obtain⟨e1,e2⟩:=hbl _ _ hm;cases h2 with
  | gone=>trivial
  | box t cs =>
   obtain⟨vs,g1,g2,g3⟩:=h;refine⟨vs,?_,?_,hleaves cs vs (fun hf=>hfl hf) g3⟩
   ·rw[e1]; exact g1
   ·rw[e1]; exact hown _ _ _ hm g2
  | arr t z l =>
   obtain⟨g1,g2⟩:=h;refine⟨?_,?_⟩
   ·rw[e2];refine g1.o8 (fun g _ _ hk=>hown _ _ _ hm hk) ?_;rcases hok.flat with hv | hf
    ·exact .inl fun b _ hb=>hzero hv b hb
    ·exact .inr (hfl hf)
   ·rw[e1,e2]; exact g2
  | fO k agg m =>
   obtain⟨es,clock,g1,g2,g3⟩:=h;refine⟨es,clock,?_,?_,g3⟩
   ·rw[e1]; exact g1
   ·rw[e1]; exact hown _ _ _ hm g2
  | fa agg m =>
   obtain⟨es,clock,mv,g1,g2,g3⟩:=h;refine⟨es,clock,mv,?_,?_,?_⟩
   ·rw[e1]; exact g1
   ·rw[e1]; exact hown _ _ _ hm g2
   ·rcases hok.flat with hv | hf
    ·exact g3.frame fun b hb _=>⟨hzero hv b hb,rfl⟩
    ·exact g3.flat fun y hy p hp=>hfl hf y hy p hp
  | fb k agg m =>
   obtain⟨es,clock,g1,g2,g3⟩:=h;refine⟨es,clock,?_,?_,g3⟩
   ·rw[e1]; exact g1
   ·rw[e1]; exact hown _ _ _ hm g2
  | ql k agg m key d=>trivial
  | kV k e z m hh =>
   obtain⟨es,clock,mv,g1,g2,g3,g4,g5⟩:=h;refine⟨es,clock,mv,?_,?_,g3,fun i x y hx hy hq=>?_,g5⟩
   ·rw[e1]; exact g1
   ·rw[e1]; exact hown _ _ _ hm g2
   ·refine (g4 i x y hx hy hq).o8 (fun g _ _ hk=>hown _ _ _ hm hk) ?_;rcases hok.flat with hv | hf
    ·exact .inl fun b _ hb=>hzero hv b hb
    ·exact .inr (hfl hf y (List.mem_of_getElem? hy))
  | lit t cs =>
   obtain⟨vs,g1,g2,g3,g4,g5⟩:=h;refine⟨vs,?_,?_,hleaves cs vs (fun hf=>hfl hf) g3,?_,by rw[List.length_map]; exact g5⟩
   ·rw[e1]; exact g1
   ·rw[e1]; exact hown _ _ _ hm g2
   ·rw[e1,e2,List.length_map]; exact g4
 have hext:Ext G s.hp w G'' (eM s.hp wr) w':=by
  refine⟨fun b hb hl=>?_,fun o ho=>if_pos ho,fun o ho=>if_pos ho,fun o ho=>mz _ _ _ ho⟩;have hb0:G.χ b=0:=hb;have hnp:¬ (2<=G.χ b/\aq τ (G.χ b-2)≠none):=fun h=>by omega
  exact⟨(hχold b hl hnp).trans hb0,(q5 b hl (hpassed b hl hnp)).1⟩
 have hchg:Chg (τ.map fun x=>x.1+2) G.χ w G''.χ w':=by
  have key:∀ b,G.χ b∉τ.map (fun x=>x.1+2) -> ¬ (2<=G.χ b/\aq τ (G.χ b-2)≠none):=fun b hb ⟨h1,h2⟩=>by
   cases hl:aq τ (G.χ b-2) with
   | none=>exact h2 hl
   | some o2=>exact hb (List.mem_map.2 ⟨_,dD hl,by dsimp only; omega⟩)
  exact⟨q1,q2,q3,q4,fun b hb hT=>hχold b hb (key b hT),fun b hb hT=>(q5 b hb (hpassed b hb (key b hT))).1⟩
 have hnorm:Norm G''.χ w':=fun b hb=>by
  have h1:¬ (b<w.heap.size /\ ¬ (2<=G.χ b/\aq τ (G.χ b-2)≠none)):=fun h=>by omega
  rw[hχnew b h1,q8 b hb]; rfl
 have hres:SRd G'' (eM s.hp wr) w' (rnZ ρ S.res) v:=by
  have hc:∀ i c u,S.res.eH[i]?=some c->us[i]?=some u->CRd G'' (eM s.hp wr) w' (rnC ρ c) u:=fun i c u hi hu=>hcmp c u (fun hf=>hf.1 c (List.mem_of_getElem? hi)) (q9.2 i c u hi hu);cases hrs:S.res with
  | one c' =>
   rw[hrs] at hval hc;have hval:us=[v]:=hval;subst hval;exact hc 0 c' v rfl rfl
  | tup l =>
   rw[hrs] at hval hc;have hval:v = .tuple us.toArray:=hval;have hl:=q9.1;rw[hrs] at hl;refine⟨us,hval,by simpa [Rz.eH] using hl,fun i x u hx hu=>?_⟩;rw[List.getElem?_map,Option.map_eq_some_iff] at hx;obtain⟨c',hc',rfl⟩:=hx;exact hc i c' u hc' hu
 refine⟨Act.ji _ _ _,G'',r.upd (T:=τ.map fun x=>x.1+2) hd hext hchg (fun k hk=>?_) hnorm (fun o h ho'=>?_) ?_⟩
 ·obtain⟨x,_,rfl⟩:=List.mem_map.1 hk;omega
 ·have ho':eM s.hp wr o=some h:=ho';rw[hlk] at ho';cases hl:aq wr o with
  | some h3 =>
   rw[hl] at ho';injection ho' with ho'
   subst ho';obtain⟨x,hx,he⟩:=List.mem_map.1 (dD hl);injection he with e1 e2
   subst e1 e2;exact .inr (hobj x.1 x.2 (dw hok.nd3 hx))
  | none =>
   rw[hl] at ho';refine .inl ⟨ho',fun hT=>?_⟩;obtain⟨x,hx,he⟩:=List.mem_map.1 hT;have hxo:x.1=o:=by omega
   obtain⟨t1,t2,t3⟩:=fv hok.tau _ hx;cases hl2:aq S.kb x.2 with
   | none=>exact t3 hl2
   | some h2 =>
    have h5:=hdom x.2 h2 hl2;have h6:(x.2,x.1)∈ρ:=List.mem_append_left _ (List.mem_map.2 ⟨x,hx,rfl⟩);have h7:rnN ρ x.2=x.1:=by unfold rnN; rw[(hρ _ _ h6).1]; rfl
    have h8:=dw hwrn (List.mem_map.2 ⟨(x.2,h2),dD hl2,rfl⟩);dsimp only at h8;rw[h7,hxo,hl] at h8;cases h8
 ·show SRd G'' _ w' (match o.dst with | some _=>rnZ ρ S.res | none=>.dead) v;cases hdst:o.dst with
  | some d=>exact hres
  | none=>trivial
end
end Go.Lad
