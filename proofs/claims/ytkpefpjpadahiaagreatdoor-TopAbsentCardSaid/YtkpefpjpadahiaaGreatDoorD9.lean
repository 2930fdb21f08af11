import Derived.Test.YtkpefpjpadahiaaGreatDoorD8
namespace Go.Lad
set_option linter.unusedVariables false
set_option linter.unusedSimpArgs false
open Go.RowKit
section
variable {ρ:Type} {fx cur:TSt} {r:ρ}
theorem lp (d:Nat) (m:List (Nat×Nat)):∀ (l:List (Nat×OSh)),∀ x∈lT d m l,x.1∈bh l/\x.1∉sS m/\x.2=d+10000 * x.1
 | [],x,h=>by cases h
 | y::l,x,h=>by
  unfold lT at h;cases hs:cr (sS m) y.1 with
  | true =>
   rw[hs,cond_true] at h;obtain⟨h1,h2⟩:=lp d m l x h;exact⟨List.mem_cons_of_mem _ h1,h2⟩
  | false =>
   rw[hs,cond_false] at h;rcases List.mem_cons.1 h with rfl | h
   ·exact⟨List.mem_cons_self,(fun hm=>absurd ((cG _ _).2 hm) (by rw[hs]; simp)),rfl⟩
   ·obtain⟨h1,h2⟩:=lp d m l x h;exact⟨List.mem_cons_of_mem _ h1,h2⟩
theorem rQ (d:Nat) (m:List (Nat×Nat)):∀ (l:List (Nat×OSh)),∀ k∈bh l,k∉sS m->∃ v,(k,v)∈lT d m l
 | [],k,h,_=>by cases h
 | y::l,k,h,hn=>by
  unfold lT;cases hs:cr (sS m) y.1 with
  | true =>
   rw[cond_true];rcases List.mem_cons.1 (show k∈y.1::bh l from h) with rfl | h
   ·exact absurd ((cG _ _).1 hs) hn
   ·exact rQ d m l k h hn
  | false =>
   rw[cond_false];rcases List.mem_cons.1 (show k∈y.1::bh l from h) with rfl | h
   ·exact⟨_,List.mem_cons_self⟩
   ·obtain⟨v,hv⟩:=rQ d m l k h hn;exact⟨v,List.mem_cons_of_mem _ hv⟩
theorem oF (d:Nat) (m:List (Nat×Nat)):∀ (l:List (Nat×OSh)),(bh l).Nodup->((lT d m l).map (·.1)).Nodup
 | [],_=>List.nodup_nil
 | y::l,h=>by
  have h:(y.1::bh l).Nodup:=h;rw[List.nodup_cons] at h;unfold lT;cases hs:cr (sS m) y.1 with
  | true=>rw[cond_true]; exact oF d m l h.2
  | false =>
   rw[cond_false,List.map_cons,List.nodup_cons];refine⟨fun hm=>?_,oF d m l h.2⟩;obtain⟨x,hx,he⟩:=List.mem_map.1 hm;exact h.1 (he ▸ (lp d m l x hx).1)
theorem yd {α:Type} {l m:List α} (h1:l.Nodup) (h2:m.Nodup) (h:∀ x∈l,x∉m):(l++m).Nodup:=List.nodup_append.2 ⟨h1,h2,fun a ha b hb e=>h a ha (e ▸ hb)⟩
theorem Br (hp:Hp):∀ (a b:List (Nat×df)),eM hp (a++b)=eM (eM hp a) b
 | [],b=>rfl
 | x::a,b=>Br (Lad.upd hp x.1 (some x.2)) a b
theorem ye (hp:Hp):∀ (l:List (Nat×df)) (o:Nat),o∉l.map (·.1)->eM hp l o=hp o
 | [],o,_=>rfl
 | x::l,o,h=>by
  rw[List.map_cons,List.mem_cons,not_or] at h;show eM (Lad.upd hp x.1 (some x.2)) l o=_;rw[ye _ l o h.2];exact if_neg h.1
theorem yf (hp:Hp):∀ (l:List (Nat×df)),(∀ x∈l,hp x.1=some x.2)->eM hp l=hp
 | [],_=>rfl
 | x::l,h=>by
  have:Lad.upd hp x.1 (some x.2)=hp:=by
   funext j
   show (if j=x.1 then some x.2 else hp j)=hp j;split
   ·rename_i e; rw[e]; exact (h x List.mem_cons_self).symm
   ·rfl
  show eM (Lad.upd hp x.1 (some x.2)) l=hp;rw[this];exact yf hp l fun y hy=>h y (List.mem_cons_of_mem _ hy)
theorem mem_keys {α:Type} {l:List (Nat×α)} {x:Nat×α} (h:x∈l):x.1∈bh l:=List.mem_map.2 ⟨x,h,rfl⟩
theorem I0 {P:Program} {Γ:Opt} {con:Con} {d:Nat} {args:List TSl} {k:KE ρ} {o:Oper} {c:Call} {fo:Operand} {fc:Nat} {caps:List Nat} (hcon:au P con) (hd:o.dst=some d) (hop:o.op = .call c) (hcal:c.callee = .value fo) (hfo:(un2 fx cur).ev fo = .c (.v (.fn fc caps))) (hfc:fc / 2=con.f)
  (hargs:ga (un2 fx cur) c fc caps=args.map TSl.un) (hpure:mB Γ o=true->con.kin=[]/\con.hin=[]/\con.ain.all SSh.vX=true) (hlits:mB Γ o=true->∀ x∈args,∀ i∈x.un.ids,(un2 fx cur).hp i≠none/\∀ e cs,(un2 fx cur).hp i≠some (.lit e cs)) (hkept:nW Γ o=true->con.hin=[]) (hsp:∀ y wr,k y wr=some r->∀ x∈wr,lB Γ o x.1=false) (h:vY fx cur con d args k=some r) :
  ∃ y wr,k y wr=some r/\∃ e,jk P Γ (un2 fx cur) o e/\e.cond/\(un2 fx cur).app o.dst e=un2 fx (qq cur o.dst y wr):=by
 unfold vY at h;obtain⟨f1,ds,as,h1,l1,m1,r1⟩:=wz h;obtain⟨f2,es,ks,h2,l2,m2,r2⟩:=nI h1;obtain⟨f3,gs,hs,h3,l3,m3,r3⟩:=nI h2;obtain⟨hc,h4⟩:=aG h3;obtain⟨x,h5,hx⟩:=wo h4;obtain⟨res,hres,h6⟩:=bind_some h5;simp only[Bool.and_eq_true] at hc;obtain⟨⟨⟨⟨⟨⟨hok,hnil⟩,hm⟩,hfl⟩,hnd⟩,hfr⟩,hex⟩:=hc;have hnil:f3.lM=[]:=by cases hq:f3.lM with | nil=>rfl | cons _ _=>rw[hq] at hnil; cases hnil
 unfold FS.ok at hok;simp only[Bool.and_eq_true,List.all_eq_true,Bool.or_eq_true,Bool.not_eq_true',eU,il,decide_eq_true_eq] at hok;obtain⟨⟨⟨⟨o1,o2⟩,o3⟩,o4⟩,o5⟩:=hok;simp only[List.all_eq_true,Bool.and_eq_true,il,decide_eq_true_eq] at hm;simp only[List.all_eq_true,Bool.or_eq_true,Bool.and_eq_true,il,decide_eq_true_eq] at hfr;have hnd:=jL _ hnd;have hat:con.argsAt x=(as,ks,hs):=by
  unfold Con.argsAt;rw[hx,m1];dsimp only;rw[m2];dsimp only;have:=m3 [];rw[List.append_nil] at this;rw[this]
 have kks:bh ks=bh con.kin:=by have:=nJ con.kin (es++[]); rw[m2] at this; exact this
 have khs:bh hs=bh con.hin:=by have:=nJ con.hin (gs++[]); rw[m3] at this; exact this
 let S:=con.spec x res
 have hS:S=⟨as.map TSl.un,dY (hs++ks),zo con.out (con.mL res).1,dY ((con.mL res).2++ks)⟩:=by
  show con.spec x res=_;unfold Con.spec;rw[hat]
 have kho:bh (con.mL res).2=bh con.iR:=by
  have:=nJ con.iR (kW con.out.eH (kR con.qs res)).2;exact this
 let σ:Ren:=⟨f3.m,some f3.frz,false⟩
 have hσ:σ.nodup:=⟨jL _ o1,jL _ o2⟩;have hfine:Bf σ (dY (hs++ks)) f3:=⟨hσ,fun q hq=>⟨hq,ln (by
   have:=(cG _ _).1 (o3 q hq).1;rw[nK,khs,kks];rcases List.mem_append.1 this with h | h
   ·exact List.mem_append_right _ h
   ·exact List.mem_append_left _ h)⟩,fun q hq=>⟨(fun hmm=>by
   have:=o4 q hq;rw[show cr (KY f3.m) q=true from (cG _ _).2 hmm] at this; cases this),hq⟩,(fun q hq=>by rw[hnil] at hq; cases hq)⟩
 let news:=lT d f3.m con.iR
 let ρ':=f3.m.map (fun x=>(x.2,x.1))++news
 have hrn1:(ρ'.map (·.1)).Nodup:=by
  show ((f3.m.map (fun x=>(x.2,x.1))++news).map (·.1)).Nodup;rw[List.map_append,List.map_map];have hnd1:(bh con.iR).Nodup:=(List.nodup_append.1 hnd).1;refine yd hσ.2 (oF d f3.m con.iR hnd1) fun q hq hq2=>?_;obtain⟨y,hy,rfl⟩:=List.mem_map.1 hq2;exact (lp d f3.m con.iR y hy).2.1 hq
 have hback:Gk σ ρ':=fun a b hab=>by
  rw[lU];unfold rnN;rw[dw hrn1 (v:=a) (List.mem_append_left _ (List.mem_map.2 ⟨(a,b),hab,rfl⟩))];rfl
 have hsrc:∀ q∈f3.m,(un2 fx cur).hp q.1≠none:=fun q hq=>by
  have:=(hm q hq).2;rw[gR];cases ho:obT fx cur q.1 with
  | none=>rw[ho] at this; cases this
  | some v=>simp
 have hnew:∀ q∈news,(un2 fx cur).hp q.2=none/\q.2<1000000:=fun q hq=>by
  obtain⟨n1,n2,n3⟩:=lp d f3.m con.iR q hq;obtain⟨y,hy,he⟩:=List.mem_map.1 n1;rcases hfr y hy with h | h
  ·exact absurd (he ▸ (cG _ _).1 h) n2
  ·have hfree:=jo h.2;unfold aY at hfree;rw[Bool.and_eq_true,decide_eq_true_eq] at hfree;rw[n3,← he];exact⟨by have:=hfree.1; revert this; cases (un2 fx cur).hp (d+10000 * y.1) <;> simp,hfree.2⟩
 have hrn2:(ρ'.map (·.2)).Nodup:=by
  show ((f3.m.map (fun x=>(x.2,x.1))++news).map (·.2)).Nodup;rw[List.map_append,List.map_map];have hnd1:(bh con.iR).Nodup:=(List.nodup_append.1 hnd).1;refine yd hσ.1 ?_ fun q hq hq2=>?_
  ·have hk:=oF d f3.m con.iR hnd1;have e:news.map (·.2)=(news.map (·.1)).map fun n=>d+10000 * n:=by
    rw[List.map_map];exact List.map_congr_left fun y hy=>(lp d f3.m con.iR y hy).2.2
   rw[e];exact List.Pairwise.map _ (fun a b hab he=>hab (by omega)) hk
  ·obtain⟨y,hy,rfl⟩:=List.mem_map.1 hq2;obtain⟨z,hz,hze⟩:=List.mem_map.1 hq;have:=hsrc z hz;have h0:=(hnew y hy).1;rw[← hze] at h0;exact this h0
 have hkin:∀ q∈ks,∃ o,(o,q.1)∈f3.m/\obT fx cur o=some (uf ρ' q.2):=fun q hq=>(r2 σ (dY (hs++ks)) f3 l3 hfine).2.2 f3.m (fun _ h=>h) (fun _ h=>h) hex ρ' hback q hq;have hkout:∀ q∈bh con.iR,aq ρ' q≠none:=fun q hq=>by
  by_cases hin:q∈sS f3.m
  ·obtain⟨z,hz,rfl⟩:=List.mem_map.1 hin;rw[dw hrn1 (v:=z.1) (List.mem_append_left _ (List.mem_map.2 ⟨z,hz,rfl⟩))]; simp
  ·obtain⟨v,hv⟩:=rQ d f3.m con.iR q hq hin;rw[dw hrn1 (v:=v) (List.mem_append_right _ hv)]; simp
 have hcall:Hw Γ (un2 fx cur) o (ga (un2 fx cur) c fc caps) S f3.m f3.frz news:=by
  rw[hS];refine⟨fun hp x hx=>?_,?_,?_,hσ,hrn1,hrn2,?_,?_,?_,?_,?_,?_⟩
  ·rw[hargs] at hx;obtain⟨y,hy,rfl⟩:=List.mem_map.1 hx;exact hlits hp y hy
  ·rw[hargs];exact r1 σ _ f3 (FS.le_trans l2 l3) hfine
  ·show nj _ (dY (hs++ks));have e:dY (hs++ks)=dY hs++dY ks:=List.map_append;suffices key:nj (HSub σ (un2 fx cur) (dY (hs++ks))) (dY hs++dY ks) by
    rw[← e] at key; exact key
   exact rO (r3 σ _ f3 (FS.le_refl _) hfine).2.1 (r2 σ _ f3 l3 hfine).2.1
  ·show ((dY ((con.mL res).2++ks)).map (·.1)).Nodup;rw[wv,nK,kho,kks];exact hnd
  ·refine jV fun q hq=>⟨(hm q hq).1.1,hsrc q hq,ln ?_⟩;rw[nK,kho,kks];exact (cG _ _).1 (hm q hq).1.2
  ·refine jV fun q hq=>?_;have hqk:q.1∈bh ((con.mL res).2++ks):=by
    rw[← wv]; exact List.mem_map.2 ⟨q,hq,rfl⟩
   rw[nK,kho] at hqk;rcases List.mem_append.1 hqk with h | h
   ·exact hkout _ h
   ·obtain⟨y,hy,he⟩:=List.mem_map.1 h;obtain⟨a,ha,_⟩:=hkin y hy;rw[← he,dw hrn1 (v:=a) (List.mem_append_left _ (List.mem_map.2 ⟨_,ha,rfl⟩))]; simp
  ·refine jV fun q hq=>⟨(hnew q hq).1,(hnew q hq).2,d,q.1,hd,(lp d f3.m con.iR q hq).2.2⟩
  ·cases hz:f3.frz with
   | nil=>exact .inl rfl
   | cons a l =>
    refine .inr ?_;rw[hz] at hfl;have hfl:con.gd=true:=hfl;unfold Con.gd at hfl;rw[Bool.and_eq_true,Bool.and_eq_true] at hfl;obtain⟨⟨b1,b2⟩,b3⟩:=hfl;refine⟨fun cc hcc=>?_,fun q hq=>?_⟩
    ·have hcs:∃ y∈(con.mL res).1,cc=y.un:=by
      have hcc:cc∈(zo con.out (con.mL res).1).eH:=hcc
      revert hcc
      unfold zo;split
      ·rename_i c0 _ heq;intro hcc;simp only[Rz.eH,List.mem_singleton] at hcc;exact⟨_,by rw[heq]; exact List.mem_singleton.2 rfl,hcc⟩
      ·intro hcc;obtain⟨y,hy,rfl⟩:=List.mem_map.1 hcc;exact⟨y,hy,rfl⟩
     obtain⟨y,hy,rfl⟩:=hcs;exact yc con.out.eH (kR con.qs res) b1 y hy
    ·have hq:q∈dY ((con.mL res).2++ks):=hq;unfold dY at hq;rw[List.map_append] at hq;rcases List.mem_append.1 hq with hq | hq
     ·exact td con.iR (kW con.out.eH (kR con.qs res)).2 b2 q hq
     ·have e:ks=(mU con.kin (es++[])).1:=by rw[m2]
      rw[e] at hq;exact td con.kin _ b3 q hq
  ·intro hp;obtain⟨e1,e2,e3⟩:=hpure hp;refine⟨?_,?_⟩
   ·cases hz:f3.m with
    | nil=>rfl
    | cons q l =>
     have:=(o3 q (by rw[hz]; exact List.mem_cons_self)).1;rw[e1,e2] at this;cases this
   ·have ea:as=(ug con.ain (ds++[])).1:=by rw[m1]
    show ∀ y∈as.map TSl.un,∀ l∈y.lvs,l.pc=false;rw[ea];exact yb con.ain _ e3
 refine⟨_,_,h6,um o S ρ',⟨c,fo,fc,caps,S,f3.m,f3.frz,news,hop,hcal,hfo,by rw[hfc]; exact hcon.1,by rw[hfc]; exact hcon.2 x res hres,hcall,fun q hq hkq=>?_,rfl⟩,trivial,?_⟩
 ·have hq:q∈S.kb.map fun x=>(rnN ρ' x.1,rnH ρ' x.2):=hq;obtain⟨y,hy,rfl⟩:=List.mem_map.1 hq;rw[hS] at hy;have hy:y∈dY ((con.mL res).2++ks):=hy;unfold dY at hy;rw[List.map_append] at hy;dsimp only;rcases List.mem_append.1 hy with hy | hy
  ·obtain⟨z,hz,rfl⟩:=List.mem_map.1 hy;have hzk:z.1∈bh con.iR:=by rw[← kho]; exact mem_keys hz
   have hk0:con.hin=[]:=by
    refine hkept ?_;have h7:lB Γ o (rnT ρ' z.1)=false:=hsp _ _ h6 (rnT ρ' z.1,uf ρ' z.2) (List.mem_map.2 ⟨z,hz,rfl⟩);rw[lU] at h7;have hkq:(nW Γ o || lB Γ o (rnN ρ' z.1))=true:=hkq;rw[h7,Bool.or_false] at hkq;exact hkq
   have hnot:z.1∉sS f3.m:=fun hm2=>by
    obtain⟨u,hu,he⟩:=List.mem_map.1 hm2;have h8:=(cG _ _).1 (o3 u hu).1;rw[hk0,show bh ([]:List (Nat×OSh))=[] from rfl,List.append_nil,he] at h8;exact (List.nodup_append.1 hnd).2.2 z.1 hzk z.1 h8 rfl
   obtain⟨v,hv⟩:=rQ d f3.m con.iR z.1 hzk hnot;have hl:aq ρ' z.1=some v:=dw hrn1 (List.mem_append_right _ hv);left;have hn:=(hnew _ hv).1;unfold rnN;rw[hl];exact hn
  ·obtain⟨z,hz,rfl⟩:=List.mem_map.1 hy;obtain⟨a,ha,hob⟩:=hkin z hz;right;have hra:rnT ρ' z.1=a:=hback a z.1 ha;rw[lU] at hra;rw[hra,gR,hob];show some (uf ρ' z.2).un=some (rnH ρ' z.2.un);rw[EK]
 rw[hS];unfold um;rw[hd];dsimp only;have e1:(dY ((con.mL res).2++ks)).map (fun x=>(rnN ρ' x.1,rnH ρ' x.2))=dY ((con.mL res).2.map fun x=>(rnT ρ' x.1,uf ρ' x.2))++dY (ks.map fun x=>(rnT ρ' x.1,uf ρ' x.2)):=by
  rw[EL,EL,← List.map_append];congr 1;exact List.map_append
 rw[e1,← Dy];have key:∀ (x:TSl) (a b:List (Nat×df)) (cc:Prop),(∀ q∈b,(un2 fx cur).hp q.1=some q.2/\q.1∉a.map (·.1))->(un2 fx cur).app (some d) ⟨cc,x.un,a++b⟩=(un2 fx cur).app (some d) ⟨cc,x.un,a⟩:=by
  intro x a b cc hb;unfold St.app;congr 1;show eM (un2 fx cur).hp (a++b)=eM (un2 fx cur).hp a;rw[Br];exact yf _ b fun q hq=>by rw[ye _ a q.1 (hb q hq).2]; exact (hb q hq).1
 rw[key]
 ·exact Dx (some d) (uw con.out ρ' (con.mL res).1) ((con.mL res).2.map fun x=>(rnT ρ' x.1,uf ρ' x.2)) True
 ·intro q hq;obtain⟨y,hy,rfl⟩:=List.mem_map.1 hq;obtain⟨z,hz,rfl⟩:=List.mem_map.1 hy;obtain⟨a,ha,hob⟩:=hkin z hz;dsimp only;have hra:rnT ρ' z.1=a:=hback a z.1 ha;refine⟨by rw[hra,gR,hob]; rfl,fun hmem=>?_⟩;obtain⟨w,hw,hwe⟩:=List.mem_map.1 hmem;obtain⟨v,hv,rfl⟩:=List.mem_map.1 hw;obtain⟨u,hu,rfl⟩:=List.mem_map.1 hv;dsimp only at hwe;rw[hra] at hwe;have huk:u.1∈bh con.iR:=by rw[← kho]; exact mem_keys hu
  have hl:=hkout u.1 huk;have hul:aq ρ' u.1=some a:=by
   rw[lU] at hwe;unfold rnN at hwe;cases hlk:aq ρ' u.1 with
   | none=>exact absurd hlk hl
   | some v=>rw[hlk] at hwe; exact congrArg some hwe
  have hmem1:(u.1,a)∈ρ':=dD hul;have hmem2:(z.1,a)∈ρ':=List.mem_append_left _ (List.mem_map.2 ⟨(a,z.1),ha,rfl⟩);have hzk:z.1∈bh con.kin:=by rw[← kks]; exact mem_keys hz
  have hne:u.1≠z.1:=fun e=>by
   have:=(List.nodup_append.1 hnd).2.2 u.1 huk z.1 hzk;exact this e
  have e2:=dw (l:=ρ'.map fun x=>(x.2,x.1)) (by rw[List.map_map]; exact hrn2) (List.mem_map.2 ⟨_,hmem1,rfl⟩);have e3:=dw (l:=ρ'.map fun x=>(x.2,x.1)) (by rw[List.map_map]; exact hrn2) (List.mem_map.2 ⟨_,hmem2,rfl⟩);dsimp only at e2 e3;rw[e2] at e3;injection e3 with e3
  exact hne e3
end
end Go.Lad
