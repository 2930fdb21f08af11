import Derived.Test.YtkpefpjpadahiaaGreatDoorD4
namespace Go.Lad
set_option linter.unusedVariables false
set_option linter.unusedSimpArgs false
open Go.RowKit
section
variable {ρ:Type} {P:Program} {H:List (Nat×Ty)} {fx cur:TSt} {k:KE ρ} {r:ρ}
theorem mo {d:Ty} {x:TSl} {k:(t:Ty)->List t.den->Option ρ} (h:na fx cur d x k=some r):∃ t l,k t l=some r/\jC (dv fx cur x)=some (l.map (enc t)):=by
 unfold na at h;split at h
 ·rename_i t l;exact⟨t,l,h,rfl⟩
 ·exact⟨_,_,h,rfl⟩
 ·exact⟨_,_,h,rfl⟩
 ·rename_i o;split at h
  ·rename_i e t l ho;refine⟨_,_,h,?_⟩;show jC (.c (.v (.own o)),[(un2 fx cur).hp o])=_;rw[dA ho]; rfl
  ·cases h
 ·rename_i o a b z;split at h
  ·rename_i e t l ho;obtain⟨hz,h⟩:=aG h;rw[eU,decide_eq_true_eq] at hz;obtain⟨m,hm,h⟩:=bind_some h;obtain⟨c1,c2,c3,c4,c5⟩:=nE hm;refine⟨_,_,h,?_⟩;show jC (.c (.v (.sv o a.toNat b.toNat z)),[(un2 fx cur).hp o])=_;rw[dA ho];show (if z=t.cells/\b.toNat<=(l.map (enc t)).length then some (((l.map (enc t)).take b.toNat).drop a.toNat) else none)=_;rw[if_pos ⟨hz,by simpa using c5⟩,← c1,List.map_drop,List.map_take]
  ·cases h
 ·cases h
theorem zk {a b:Ty} (e:Ty.sl a=Ty.sl b):a=b:=by injection e
theorem mr {α:Type} {a b:Ty} {x:List a.den} {k:List b.den->Option α} {r:α} (h:kP (.sl a) (.sl b) x k=some r):∃ e:a=b,k (e ▸ x)=some r:=by
 obtain⟨e,h⟩:=gm h;have e2:=zk e;subst e2;exact⟨rfl,h⟩
theorem lh (t:Ty) (l:List t.den):∀ x∈l.map (enc t),x.length=t.cells:=fun x hx=>by
 obtain⟨y,_,rfl⟩:=List.mem_map.1 hx;exact kO t y
theorem Ba:∀ l:List Int,bytesOf (l.map (enc (.int .u8)))=some (AU l)
 | []=>rfl
 | n::l=>by
  show (match yP (enc (.int .u8) n),bytesOf (l.map (enc (.int .u8))) with | some b,some m=>some (b::m) | _,_=>none)=_;rw[Ba l]; rfl
theorem IT (s:Bs):((mkS s).data.toList.map fun b=>[PV.int .u8 (b.toNat:Int)])=(bJ s).map (enc (.int .u8)):=by
 rw[gw];induction s with
 | nil=>rfl
 | cons b s ih=>exact congrArg (List.cons [PV.int .u8 (b.toNat:Int)]) ih
theorem La {src dst:TypeId} {x:TSl} (h:It P fx cur src dst x k=some r):Did (orE (jD P src dst [x.un]) (lC P src dst [dv fx cur x])) k r:=by
 unfold It at h;split at h
 ·rename_i ks k' hs hd;split at h
  ·rename_i kd n;cases e1:IntKind.same k' .i64 with
   | some g1 =>
    cases e2:IntKind.same kd .u64 with
    | none =>
     rw[e1,e2] at h;have h4:kd ≠ .u64:=fun e=>by unfold IntKind.same at e2; rw[dif_pos e] at e2; cases e2
     refine did (c:=True) _ _ h ?_ trivial;show orE (jD P src dst [.c (.v (.p (.int kd n)))]) _=_;simp only[jD,hs,hd];rw[if_pos ⟨g1.down,h4⟩]; rfl
    | some g2 =>
     rw[e1,e2] at h;refine did (c:=True) _ _ h ?_ trivial;show orE (jD P src dst [.c (.v (.p (.int kd n)))]) _=_;simp only[jD,hs,hd];rw[if_neg (fun hh=>hh.2 g2.down)]; rfl
   | none =>
    have h4:k' ≠ .i64:=fun e=>by unfold IntKind.same at e1; rw[dif_pos e] at e1; cases e1
    have h:k (tV (.int k') (k'.wrap n)) []=some r:=by
     rw[e1] at h; exact h
    refine did (c:=True) _ _ h ?_ trivial;show orE (jD P src dst [.c (.v (.p (.int kd n)))]) _=_;simp only[jD,hs,hd];rw[if_neg (fun hh=>h4 hh.1)]; rfl
  ·cases h
 ·rename_i hs hd;split at h
  ·refine did (c:=True) _ _ h ?_ trivial;rename_i s;show orE (jD P src dst [.c (.v (.p (.str (mkS s))))]) _=_;simp only[jD,hs,hd]; rfl
  ·cases h
 ·rename_i es hs hd;split at h
  ·rename_i e he;split at h
   ·rename_i hu;obtain⟨t,l,h,hl⟩:=mo h;obtain⟨rfl,h⟩:=mr h;obtain⟨u,hu2,h⟩:=bind_some h;have hn:=ld hu2;refine did (c:=(AU l).length<=9223372036854775807) _ _ h ?_ hn;have hb:lC P src dst [dv fx cur x]=some ⟨(AU l).length<=9223372036854775807,.p (.str ⟨(AU l).toArray⟩),[]⟩:=by
     unfold lC CK;simp only[hs,hd];simp only[pd,he,hd,hl,hu];rw[Ba l]
    have hc:jD P src dst [x.un]=none:=by
     unfold jD;split
     ·rw[hs]
     ·rw[hs]
     ·rfl
    rw[hc,hb]; rfl
   ·cases h
  ·cases h
 ·rename_i el hs hd;split at h
  ·rename_i hu;split at h
   ·rename_i s;refine did (c:=True) _ _ h ?_ trivial;show orE (jD P src dst [.c (.v (.p (.str (mkS s))))]) (lC P src dst [dv fx cur (.c (.v (.v .str s)))])=_;have hc:jD P src dst [.c (.v (.p (.str (mkS s))))]=none:=by simp only[jD,hs,hd]
    have hb:lC P src dst [dv fx cur (.c (.v (.v .str s)))]=some ⟨True,.p (.sl ((bJ s).map (enc (.int .u8)))),[]⟩:=by
     unfold lC CK;simp only[hs,hd,hu];have e:=IT s;rw[← e]; rfl
    rw[hc,hb]; rfl
   ·cases h
  ·cases h
 ·cases h
theorem Ez:∀ (l:List (Nat×Nat×TC)) (cs out:List TL),AV cs l=some out->uM (cs.map TL.un) (l.map fun x=>(x.1,x.2.1,x.2.2.un))=some (out.map TL.un)
 | [],cs,out,h=>by
  simp only[AV,Option.some.injEq] at h;subst h; rfl
 | (off,n,c)::l,cs,out,h=>by
  unfold AV at h;obtain⟨hc,h⟩:=aG h;rw[Bool.and_eq_true,eU,il,decide_eq_true_eq,decide_eq_true_eq] at hc;have ih:=Ez l _ _ h;rw[List.map_cons];unfold uM;dsimp only;rw[kx,List.length_map,List.length_map,if_pos hc]
  simpa [List.map_append,List.map_take,List.map_drop] using ih
theorem Bb {pl:List (Nat×Nat)}:∀ (is:List Nat) (args:List TSl) (l:List (Nat×Nat×TC)),vP pl is args=some l->lZ (fun i=>pl[i]?) is (args.map TSl.un)=some (l.map fun x=>(x.1,x.2.1,x.2.2.un))
 | [],[],l,h=>by
  simp only[vP,Option.some.injEq] at h;subst h; rfl
 | i::is,.c c::args,l,h=>by
  unfold vP at h;split at h
  ·rename_i o n l' h1 h2;simp only[Option.some.injEq] at h;subst h;have ih:=Bb is args l' h2;show (match pl[i]?,lZ (fun i=>pl[i]?) is (args.map TSl.un) with | some (o,n),some l=>some ((o,n,c.un)::l) | _,_=>none)=_;rw[h1,ih]; rfl
  ·cases h
 | [],_::_,l,h=>by cases h
 | _::_,[],l,h=>by cases h
 | i::is,.dead::args,l,h=>by cases h
 | i::is,.t _::args,l,h=>by cases h
theorem wg {t:TypeId} {is:List Nat} {args:List TSl} (h:De P t is args k=some r):Did (pK P t is (args.map TSl.un)) k r:=by
 unfold De at h;split at h
 ·rename_i pl z hp hz;split at h
  ·rename_i l hl;split at h
   ·rename_i cs hc;refine did (c:=True) _ _ h ?_ trivial;simp only[pK,hp,A7 hz,Bb _ _ _ hl,Ez _ _ _ hc];rfl
   ·cases h
  ·cases h
 ·cases h
theorem mI {t:Ty} {l:TL} {k:t.den->Option ρ} (hlf:ox t=true) (h:Iu t l k=some r):∃ x,k x=some r/\∃ p,enc t x=[p]/\Ah l.un=some p:=by
 unfold Iu at h;split at h
 ·rename_i t' x;obtain⟨y,h,he⟩:=lg h;obtain⟨p,hp,hu⟩:=px hlf y;refine⟨_,h,p,hp,?_⟩;show Ah (match enc t' x with | [p]=>.p p | _=>.dead)=some p;rw[← he,hp]; rfl
 ·obtain⟨y,h,he⟩:=sN h;exact⟨_,h,_,he,rfl⟩
 ·cases h
theorem iU {x:aJ} {r:List aJ} {p:PV} {l:List PV} (h:Ah x=some p) (hl:gL r=some l):gL (x::r)=some (p::l):=by
 unfold gL; rw[h,hl]
theorem wh:∀ {xs ys:List aJ} {ps qs:List PV},gL xs=some ps->gL ys=some qs->gL (xs++ys)=some (ps++qs)
 | [],ys,ps,qs,h,h'=>by simp only[gL,Option.some.injEq] at h; subst h; exact h'
 | x::xs,ys,ps,qs,h,h'=>by
  unfold gL at h;split at h
  ·rename_i p l hp hl;simp only[Option.some.injEq] at h;subst h;exact iU hp (wh hl h')
  ·cases h
theorem py:∀ (t:Ty) (ls:List TL) (k:t.den->List TL->Option ρ),AW t ls k=some r->∃ x rest,k x rest=some r/\∃ pre,ls=pre++rest/\gL (pre.map TL.un)=some (enc t x)
 | .pair a b,ls,k,h=>by
  unfold AW at h;obtain⟨x,r1,h1,p1,rfl,e1⟩:=py a ls _ h;obtain⟨y,r2,h2,p2,rfl,e2⟩:=py b r1 _ h1;refine⟨(x,y),r2,h2,p1++p2,by rw[List.append_assoc],?_⟩;rw[List.map_append];exact wh e1 e2
 | .any,[],k,h=>by cases h
 | .int kd,[],k,h=>by cases h
 | .bool,[],k,h=>by cases h
 | .str,[],k,h=>by cases h
 | .sl e,[],k,h=>by cases h
 | .map kd e,[],k,h=>by cases h
 | .map kd e,l::ls,k,h=>by obtain⟨x,h2,p,e',hp⟩:=mI (t := .map kd e) rfl h; exact⟨x,ls,h2,[l],rfl,by rw[e']; exact iU hp rfl⟩
 | .slu i,[],k,h=>by cases h
 | .slu i,l::ls,k,h=>by obtain⟨x,h2,p,e',hp⟩:=mI (t := .slu i) rfl h; exact⟨x,ls,h2,[l],rfl,by rw[e']; exact iU hp rfl⟩
 | .any,l::ls,k,h=>by obtain⟨x,h2,p,e,hp⟩:=mI (t := .any) rfl h; exact⟨x,ls,h2,[l],rfl,by rw[e]; exact iU hp rfl⟩
 | .int kd,l::ls,k,h=>by obtain⟨x,h2,p,e,hp⟩:=mI (t := .int kd) rfl h; exact⟨x,ls,h2,[l],rfl,by rw[e]; exact iU hp rfl⟩
 | .bool,l::ls,k,h=>by obtain⟨x,h2,p,e,hp⟩:=mI (t := .bool) rfl h; exact⟨x,ls,h2,[l],rfl,by rw[e]; exact iU hp rfl⟩
 | .str,l::ls,k,h=>by obtain⟨x,h2,p,e,hp⟩:=mI (t := .str) rfl h; exact⟨x,ls,h2,[l],rfl,by rw[e]; exact iU hp rfl⟩
 | .sl e,l::ls,k,h=>by obtain⟨x,h2,p,e',hp⟩:=mI (t := .sl e) rfl h; exact⟨x,ls,h2,[l],rfl,by rw[e']; exact iU hp rfl⟩
theorem Bc {te:Ty}:∀ (args:List TSl) (k:List te.den->Option ρ),vQ te args k=some r->∃ l,k l=some r/\nZ te.cells (args.map TSl.un)=some (l.map (enc te))
 | [],k,h=>⟨[],h,rfl⟩
 | .c c::args,k,h=>by
  unfold vQ pq at h;obtain⟨x,rest,h1,pre,hp,e⟩:=py te _ _ h;split at h1
  ·rw[List.append_nil] at hp;obtain⟨l,h2,ih⟩:=Bc args _ h1;refine⟨x::l,h2,?_⟩;show (match gL c.un.leaves,nZ te.cells (args.map TSl.un) with | some ps,some l=>if ps.length=te.cells then some (ps::l) else none | _,_=>none)=_;rw[kx,hp,e,ih];dsimp only;rw[if_pos (kO te x)]; rfl
  ·cases h1
 | .dead::_,k,h=>by cases h
 | .t _::_,k,h=>by cases h
theorem EA {te:Ty}:∀ (args:List TSl) (k:List te.den->Option ρ),vQ te args k=some r->∃ l,k l=some r/\rowsOf te.cells (args.map (dv fx cur))=some (l.map (enc te))
 | [],k,h=>⟨[],h,rfl⟩
 | .c c::args,k,h=>by
  unfold vQ pq at h;obtain⟨x,rest,h1,pre,hp,e⟩:=py te _ _ h;split at h1
  ·rw[List.append_nil] at hp;obtain⟨l,h2,ih⟩:=EA args _ h1;refine⟨x::l,h2,?_⟩;show (match gL c.un.leaves,rowsOf te.cells (args.map (dv fx cur)) with | some ps,some l=>if ps.length=te.cells then some (ps::l) else none | _,_=>none)=_;rw[kx,hp,e,ih];dsimp only;rw[if_pos (kO te x)]; rfl
  ·cases h1
 | .dead::_,k,h=>by cases h
 | .t _::_,k,h=>by cases h
theorem rH:∀ (i:Nat) (is:List Nat),pS i is=true->is=List.range' i is.length
 | _,[],_=>rfl
 | i,x::is,h=>by
  unfold pS at h;rw[Bool.and_eq_true,eU,decide_eq_true_eq] at h;obtain⟨rfl,h⟩:=h;have:=rH _ is h;rw[List.length_cons,List.range'_succ,← this]
theorem xk {t:TypeId} {len:Nat} {is:List Nat} {d:Option Nat} {args:List TSl} (h:pr P H fx cur t len is d args k=some r):Did (dG P t len is d (aY (un2 fx cur).hp d) (args.map (dv fx cur))) k r:=by
 unfold pr at h;split at h
 ·rename_i e z d te he hh;obtain⟨hc,h⟩:=aG h;simp only[Bool.and_eq_true,eU,il,decide_eq_true_eq] at hc;obtain⟨⟨⟨⟨⟨h1,h2⟩,h3⟩,h4⟩,h5⟩,h6⟩:=hc;obtain⟨l,h,hl⟩:=EA (fx:=fx) (cur:=cur) args _ h;refine did (c:=True) _ _ h ?_ trivial;have hr:is=List.range len:=by rw[rH 0 is h1,h2,List.range_eq_range']
  simp only[dG,he];rw[if_pos ⟨hr,jo h3,h4,h5⟩,h6,hl]; rfl
 ·cases h
theorem EB:∀ {args:List TSl} {cs:List TL},Iv args=some cs->n0 (args.map TSl.un)=some (cs.map TL.un)
 | [],cs,h=>by
  simp only[Iv,Option.some.injEq] at h;subst h; rfl
 | x::args,cs,h=>by
  unfold Iv at h;split at h
  ·rename_i heq; cases heq
  ·rename_i y r heq;injection heq with h1 h2
   subst h1 h2;split at h
   ·rename_i l hl;simp only[Option.some.injEq] at h;subst h;show (match n0 (args.map TSl.un) with | some l=>some (y.un::l) | none=>none)=_;rw[EB hl]; rfl
   ·cases h
  ·cases h
theorem Bd {t:TypeId} {len:Nat} {is:List Nat} {d:Option Nat} {args:List TSl} (h:sO P fx cur t len is d args k=some r):Did (fp P t len is d (aY (un2 fx cur).hp d) (args.map TSl.un)) k r:=by
 unfold sO at h;split at h
 ·rename_i e z d cs he hl;obtain⟨hc,h⟩:=aG h;simp only[Bool.and_eq_true,eU,il,decide_eq_true_eq] at hc;obtain⟨⟨⟨⟨h1,h2⟩,h3⟩,h4⟩,h5⟩:=hc;refine did (c:=True) _ _ h ?_ trivial;have hr:is=List.range len:=by rw[rH 0 is h1,h2,List.range_eq_range']
  simp only[fp,he];rw[if_pos ⟨hr,jo h3,h4,h5⟩,EB hl]; rfl
 ·cases h
theorem Dr {t:TypeId} {len:Nat} {is:List Nat} {d:Option Nat} {args:List TSl} (h:vR P H fx cur t len is d args k=some r):(dG P t len is d (aY (un2 fx cur).hp d) (args.map (dv fx cur))=none/\Did (fp P t len is d (aY (un2 fx cur).hp d) (args.map TSl.un)) k r)\/Did (dG P t len is d (aY (un2 fx cur).hp d) (args.map (dv fx cur))) k r:=by
 unfold vR at h;cases ho:args.any ownRow with
 | false=>rw[ho,cond_false] at h; exact .inr (xk h)
 | true =>
  rw[ho,cond_true] at h;refine .inl ⟨?_,Bd h⟩;unfold dG;split
  ·rename_i e z d he;split
   ·have:∀ {args:List TSl},args.any ownRow=true->rowsOf z (args.map (dv fx cur))=none:=by
     intro args;induction args with
     | nil=>intro h; cases h
     | cons x args ih =>
      intro h;rw[List.any_cons,Bool.or_eq_true] at h;rw[List.map_cons];rcases h with h | h
      ·unfold ownRow at h;split at h
       ·rename_i y;cases y <;> first | (cases h; done) | skip
        simp [rowsOf,dv,gL,Ah,TSl.un,TC.un,TL.un,Cmp.leaves]
       ·cases h
      ·have:=ih h;unfold rowsOf;split
       ·rename_i heq; cases heq
       ·rename_i heq;injection heq with h1 h2
        subst h2;rw[this];split <;> simp_all
       ·rfl
    rw[this ho]
   ·rfl
  ·rfl
theorem Gf {tl:Bool} {t:TypeId} {len:Nat} {is:List Nat} {args:List TSl} (h:zd P H tl t len is args k=some r):Did (mC P tl t len is (args.map TSl.un)) k r:=by
 unfold zd at h;split at h
 ·rename_i e z te he hh;obtain⟨hc,h⟩:=aG h;simp only[Bool.and_eq_true,eU,il,decide_eq_true_eq] at hc;obtain⟨⟨⟨⟨h1,h2⟩,h4⟩,h5⟩,h6⟩:=hc;obtain⟨l,h,hl⟩:=Bc args _ h;refine did (c:=True) _ _ h ?_ trivial;have hr:is=List.range len:=by rw[rH 0 is h1,h2,List.range_eq_range']
  simp only[mC,he];rw[if_pos ⟨hr,h4,h5⟩,h6,hl];cases tl <;> rfl
 ·cases h
theorem Ds {n:Nat} {j m:Int} {u:Unit} (h:Iw n j m=some u):j=n/\m=n:=by
 unfold Iw at h;obtain⟨hc,_⟩:=aG h;rw[Bool.and_eq_true,fE,fE,decide_eq_true_eq,decide_eq_true_eq] at hc;exact hc
theorem N0 {t:TypeId} {x j m:TSl} (h:ND P t x j m k=some r):Did (xD P t [x.un,j.un,m.un]) k r:=by
 unfold ND at h;split at h
 ·rename_i e z t' l kd j kd2 m he;obtain⟨j,rfl⟩:∃ q:Int,q=j:=⟨j,rfl⟩;obtain⟨m,rfl⟩:∃ q:Int,q=m:=⟨m,rfl⟩;obtain⟨hz,h⟩:=aG h;rw[eU,decide_eq_true_eq] at hz;obtain⟨u,hu,h⟩:=bind_some h;obtain⟨hj,hm⟩:=Ds hu;refine did (c:=j=(l.map (enc t')).length/\m=(l.map (enc t')).length/\∀ x∈l.map (enc t'),x.length=z) _ _ h ?_ ⟨hj.trans (congrArg Int.ofNat (List.length_map (f:=enc t') (as:=l)).symm),hm.trans (congrArg Int.ofNat (List.length_map (f:=enc t') (as:=l)).symm),fun x hx=>?_⟩
  ·show xD P t [.c (.v (.p (.sl (l.map (enc t'))))),.c (.v (.p (.int _ j))),.c (.v (.p (.int _ m)))]=_;simp only[xD,he]; rfl
  ·obtain⟨y,_,rfl⟩:=List.mem_map.1 hx;rw[kO,hz]
 ·cases h
theorem N1 {t:TypeId} {x:TSl} (h:NC P fx cur t x k=some r):Did (kF P t [dv fx cur x]) k r:=by
 unfold NC at h;split at h
 ·rename_i kt et hu;split at h
  ·rename_i o;split at h
   ·rename_i kd agg te m ho;obtain⟨u,hn,h⟩:=bind_some h;have hn:=ld hn;refine did (c:=(mH id (enc te) m).length<=9223372036854775807) _ _ h ?_ (by rw[nG]; exact hn);show kF P t [(.c (.v (.mp o)),[(un2 fx cur).hp o])]=_;rw[dA ho];simp only[kF,cV.un,hu,nG]; rfl
   ·rename_i kd agg te m ho;obtain⟨u,hn,h⟩:=bind_some h;have hn:=ld hn;refine did (c:=(mH mkQ (enc te) m).length<=9223372036854775807) _ _ h ?_ (by rw[nG]; exact hn);show kF P t [(.c (.v (.mp o)),[(un2 fx cur).hp o])]=_;rw[dA ho];simp only[kF,cV.un,hu,nG]; rfl
   ·rename_i agg te m ho;obtain⟨u,hn,h⟩:=bind_some h;have hn:=ld hn;refine did (c:=(mH mkS (enc te) m).length<=9223372036854775807) _ _ h ?_ (by rw[nG]; exact hn);show kF P t [(.c (.v (.mp o)),[(un2 fx cur).hp o])]=_;rw[dA ho];simp only[kF,cV.un,hu,nG]; rfl
   ·cases h
  ·cases h
 ·rename_i hu;split at h
  ·rename_i s;refine did (c:=True) _ _ h ?_ trivial;show kF P t [(.c (.v (.p (.str (mkS s)))),_)]=_;simp only[kF,hu,eI]; rfl
  ·cases h
 ·rename_i e hu;obtain⟨t',l,h,hl⟩:=mo h;refine did (c:=True) _ _ h ?_ trivial;have:∀ a:Arg,jC a=some (l.map (enc t'))->kF P t [a]=some ⟨True,.p (.int .i64 l.length),[]⟩:=by
   intro a ha;unfold kF;split
   ·rename_i heq; simp only[List.cons.injEq,and_true] at heq; subst heq; simp [jC] at ha
   ·rename_i heq; simp only[List.cons.injEq,and_true] at heq; subst heq; simp [jC] at ha
   ·rename_i heq; simp only[List.cons.injEq,and_true] at heq; subst heq; simp [jC] at ha
   ·rename_i heq; simp only[List.cons.injEq,and_true] at heq; subst heq; simp [jC] at ha
   ·rename_i a' _ _ _ heq;simp only[List.cons.injEq,and_true] at heq;subst heq;rw[hu]; simp only[ha,List.length_map]; rfl
   ·rename_i hno; exact absurd rfl (hno a)
  exact this _ hl
 ·cases h
theorem Gg {t:TypeId} {d:Option Nat} {x y:TSl} (h:ur P H fx cur t d x y k=some r):Did (gM P t d (aY (un2 fx cur).hp d) [dv fx cur x,dv fx cur y]) k r:=by
 unfold ur at h;split at h
 ·rename_i e z d he;obtain⟨hf0,h0⟩:=aG h;clear h;have hf:=jo hf0;clear hf0;have h:=h0;clear h0;split at h
  ·rename_i o;split at h
   ·rename_i e' t' l ho;obtain⟨hc,h1⟩:=aG h;rw[Bool.and_eq_true,eU,eU,decide_eq_true_eq,decide_eq_true_eq] at hc;obtain⟨he2,hz⟩:=hc;subst he2;obtain⟨t2,m,h2,hm⟩:=mo h1;obtain⟨et,h3⟩:=mr h2;subst et;obtain⟨s,hs,h4⟩:=bind_some h3;obtain⟨hs1,hl⟩:=nF hs;subst hs1;have h:=h4;refine did (c:=(l.map (enc t2)).length+(m.map (enc t2)).length<=2147483647/\∀ x∈m.map (enc t2),x.length=t2.cells) _ _ h ?_ ⟨by simpa using hl,lh _ _⟩;show gM P t (some d) _ [(.c (.v (.own o)),[(un2 fx cur).hp o]),dv fx cur y]=_;rw[dA ho];simp only[gM,cV.un,he,hm];rw[if_pos ⟨trivial,hz.symm,hf⟩];simp only[dY,List.map_cons,List.map_nil,cV.un,TSl.un,TC.un,TL.un,List.map_append]
   ·cases h
  ·split at h
   ·rename_i te hh;obtain⟨hz,h⟩:=aG h;rw[eU,decide_eq_true_eq] at hz;obtain⟨t2,m,h2,hm⟩:=mo h;obtain⟨et,h3⟩:=mr h2;subst et;obtain⟨s,hs,h4⟩:=bind_some h3;obtain⟨hs1,hl⟩:=nF hs;subst hs1;have h:=h4;refine did (c:=(m.map (enc t2)).length<=2147483647/\∀ x∈m.map (enc t2),x.length=z) _ _ h ?_ ⟨by simpa using hl,by rw[hz]; exact lh _ _⟩;show gM P t (some d) _ [(.c (.v .nil),[]),dv fx cur y]=_;simp only[gM,he,hm];rw[if_pos hf];simp only[dY,List.map_cons,List.map_nil,cV.un,TSl.un,TC.un,TL.un,List.nil_append,hz]
   ·cases h
  ·cases h
 ·cases h
theorem rI {hl hh:Bool} {n:Nat}:∀ {as:List TSl} {q:Int×Int},vS hl hh n as=some q->qm hl hh n (as.map (dv fx cur))=some q:=by
 intro as q h;unfold vS at h;split at h <;> first | (cases h; done) | (simp only[Option.some.injEq] at h; subst h; rfl)
theorem IU {t:TypeId} {hl hh:Bool} {x:TSl} {as:List TSl} (h:ze P fx cur t hl hh x as k=some r):Did (iY P t hl hh (dv fx cur x::as.map (dv fx cur))) k r:=by
 unfold ze at h;split at h
 ·rename_i s;obtain⟨s,rfl⟩:∃ m:Bs,m=s:=⟨s,rfl⟩;split at h
  ·rename_i i j hu hb;obtain⟨m,hm,h⟩:=bind_some h;obtain⟨c1,c2,c3,c4,c5⟩:=nE hm;refine did (c:=0<=i/\i<=j/\j<=(mkS s).size) _ _ h ?_ ⟨c2,c3,by rw[eI]; exact c4⟩;show iY P t hl hh ((.c (.v (.p (.str (mkS s)))),_)::as.map (dv fx cur))=_;simp only[iY,hu];rw[eI,rI hb];simp only[dS,AQ,c1]; rfl
  ·cases h
 ·rename_i t' l;obtain⟨l,rfl⟩:∃ m:List t'.den,m=l:=⟨l,rfl⟩;split at h
  ·rename_i e z i j he hb;obtain⟨hz,h⟩:=aG h;rw[eU,decide_eq_true_eq] at hz;obtain⟨m,hm,h⟩:=bind_some h;obtain⟨c1,c2,c3,c4,c5⟩:=nE hm;refine did (c:=0<=i/\i<=j/\j<=((l.map (enc t')).length:Int)/\∀ x∈l.map (enc t'),x.length=z) _ _ h ?_ ⟨c2,c3,by simpa using c4,by rw[hz]; exact lh _ _⟩;show iY P t hl hh ((.c (.v (.p (.sl (l.map (enc t'))))),_)::as.map (dv fx cur))=_;simp only[iY,he];rw[show qm hl hh (l.map (enc t')).length (as.map (dv fx cur))=some (i,j) by rw[List.length_map]; exact rI hb];simp only[dS,← c1,TSl.un,TC.un,TL.un,enc,List.map_drop,List.map_take]; rfl
  ·cases h
 ·split at h
  ·rename_i q i j he hb;obtain⟨u,hn,h⟩:=bind_some h;have hn:=ld hn;refine did (c:=i=0/\j=0) _ _ h ?_ hn;obtain⟨q1,q2⟩:=q;show iY P t hl hh ((.c (.v .nil),_)::as.map (dv fx cur))=_;simp only[iY,he];rw[rI hb]; rfl
  ·cases h
 ·rename_i o;split at h
  ·rename_i e' t' l ho;split at h
   ·rename_i e z i j he hb;obtain⟨hz,h⟩:=aG h;rw[eU,decide_eq_true_eq] at hz;obtain⟨m,hm,h⟩:=bind_some h;obtain⟨c1,c2,c3,c4,c5⟩:=nE hm;refine did (c:=0<=i/\i<=j/\j<=((l.map (enc t')).length:Int)) _ _ h ?_ ⟨c2,c3,by simpa using c4⟩;show iY P t hl hh ((.c (.v (.own o)),[(un2 fx cur).hp o])::as.map (dv fx cur))=_;rw[dA ho];simp only[iY,cV.un,he];rw[show qm hl hh (l.map (enc t')).length (as.map (dv fx cur))=some (i,j) by rw[List.length_map]; exact rI hb];simp only[hz,if_true,dS]; rfl
   ·cases h
  ·cases h
 ·cases h
theorem N2 {t:TypeId} {d:Option Nat} {x:TSl} (h:NF P fx cur t d x k=some r):Did (vg P t d (aY (un2 fx cur).hp d) [x.un]) k r:=by
 unfold NF at h;split at h
 ·rename_i d n c hn;obtain⟨hc,h⟩:=aG h;rw[Bool.and_eq_true,eU,decide_eq_true_eq] at hc;refine did (c:=True) _ _ h ?_ trivial;show vg P t (some d) _ [.c c.un]=_;simp only[vg,hn,kx,List.length_map];rw[if_pos ⟨jo hc.1,hc.2⟩]; rfl
 ·cases h
theorem xY {mx:Bool} {x y:TSl} (h:uu mx x y k=some r):Did (lH mx [x.un,y.un]) k r:=by
 unfold uu at h;split at h
 ·rename_i kd a kd' b;split at h
  ·rename_i hk _;refine did (c:=True) _ _ h ?_ trivial;show (if kd=kd' then val (.p (.int kd (if mx then max a b else min a b))) else none)=_;rw[if_pos hk.down];cases mx <;> rfl
  ·cases h
 ·cases h
theorem wi {mx:Bool} {x y z:TSl} (h:rD mx x y z k=some r):Did (lH mx [x.un,y.un,z.un]) k r:=by
 unfold rD at h;split at h
 ·rename_i kd a kd' b kd2 c;split at h
  ·rename_i hk hk2 _ _;refine did (c:=True) _ _ h ?_ trivial;show (if kd=kd'/\kd=kd2 then val (.p (.int kd (if mx then max (max a b) c else min (min a b) c))) else none)=_;rw[if_pos ⟨hk.down,hk2.down⟩];cases mx <;> rfl
  ·cases h
 ·cases h
theorem ki:∀ (t:Ty) (x:t.den),t.gd=true->∀ p∈enc t x,p.flat=true
 | .any,x,_,p,hp=>by simp only[enc,List.mem_singleton] at hp; subst hp; rfl
 | .int _,x,_,p,hp=>by simp only[enc,List.mem_singleton] at hp; subst hp; rfl
 | .bool,x,_,p,hp=>by simp only[enc,List.mem_singleton] at hp; subst hp; rfl
 | .str,x,_,p,hp=>by simp only[enc,List.mem_singleton] at hp; subst hp; rfl
 | .sl _,x,h,_,_=>by cases h
 | .pair a b,x,h,p,hp=>by
  unfold Ty.gd at h;rw[Bool.and_eq_true] at h;unfold enc at hp;rcases List.mem_append.1 hp with hp | hp
  ·exact ki a _ h.1 p hp
  ·exact ki b _ h.2 p hp
theorem pU {c:TC} {te:Ty} {y:te.den} (hp:c.leaves.map TL.un=(enc te y).map aJ.p):kG c.un=some (c.isAgg,enc te y):=by
 cases c with
 | v l =>
  simp only[TC.leaves,List.map_cons,List.map_nil] at hp;cases he:enc te y with
  | nil=>rw[he] at hp; cases hp
  | cons p ps =>
   rw[he,List.map_cons] at hp;injection hp with h1 h2
   have:ps=[]:=by cases ps with | nil=>rfl | cons _ _=>cases h2
   subst this;simp only[TC.un,h1]; rfl
 | g ls =>
  simp only[TC.leaves] at hp;show ((dZ (ls.map TL.un)).map fun ps=>(true,ps))=_;rw[hp,zg]; rfl
theorem pz {et:TypeId} {agg:Bool} {zl:List TL} {te:Ty} {z:te.den} (h:nc P et=some (agg,zl)) (hp:zl.map TL.un=(enc te z).map aJ.p) (hf:te.gd=true):oZ P et=some (agg,enc te z):=by
 unfold nc at h;unfold oZ;split at h
 ·rename_i i hi;rw[hi];dsimp only;split at h
  ·rename_i v hv;rw[hv];dsimp only;split at h
   ·rename_i c hc;simp only[Option.some.injEq,Prod.mk.injEq] at h;obtain⟨h1,rfl⟩:=h;rw[← we,hc];show (match kG c.un with | some (agg,ps)=>if ps.all PV.flat then some (agg,ps) else none | none=>none)=_;rw[pU hp];dsimp only;rw[if_pos (List.all_eq_true.2 (ki te z hf))];have:c.isAgg=agg:=by rw[← h1]; cases c <;> rfl
    rw[this]
   ·cases h
  ·cases h
 ·cases h
theorem xZ:∀ (xs:List aJ) (ps:List PV),gL xs=some ps->dZ (xs.map aJ.mX)=some ps
 | [],ps,h=>h
 | x::xs,ps,h=>by
  unfold gL at h;split at h
  ·rename_i p qs hp hq;injection h with h
   subst h;have e:x.mX = .p p:=by
    unfold Ah at hp;split at hp
    ·injection hp with hp; subst hp; rfl
    ·injection hp with hp; subst hp; rfl
    ·cases hp
   rw[List.map_cons,e];unfold dZ;rw[xZ xs qs hq]; rfl
  ·cases h
theorem pA {t:Ty} {ls:List TL} {k:t.den->Option ρ} (h:pq t ls k=some r):∃ x,k x=some r/\gL (ls.map TL.un)=some (enc t x):=by
 unfold pq at h;obtain⟨x,rest,h2,pre,rfl,e⟩:=py t ls _ h;split at h2
 ·exact⟨x,h2,by rw[List.append_nil]; exact e⟩
 ·cases h2
theorem Dt {c:TC} {te:Ty} {y:te.den} (hp:gL (c.leaves.map TL.un)=some (enc te y)):kG c.un.mX=some (c.isAgg,enc te y):=by
 have h:=xZ _ _ hp;cases c with
 | v l =>
  simp only[TC.leaves,List.map_cons,List.map_nil] at h;show kG (.v l.un.mX)=_;cases hl:l.un.mX with
  | p p =>
   rw[hl] at h;have h:some [p]=some (enc te y):=h;injection h with h
   rw[← h]; rfl
  | _=>rw[hl] at h; cases h
 | g ls =>
  simp only[TC.leaves] at h;show ((dZ ((ls.map TL.un).map aJ.mX)).map fun ps=>(true,ps))=_;rw[h]; rfl
theorem wj {et:TypeId} {agg:Bool} {zl:List TL} {te:Ty} {z:te.den} (h:nc P et=some (agg,zl)) (hp:gL (zl.map TL.un)=some (enc te z)):nV P et=some (agg,enc te z):=by
 unfold nc at h;unfold nV;split at h
 ·rename_i i hi;rw[hi];dsimp only;split at h
  ·rename_i v hv;rw[hv];dsimp only;split at h
   ·rename_i c hc;simp only[Option.some.injEq,Prod.mk.injEq] at h;obtain⟨h1,rfl⟩:=h;rw[← we,hc];show kG c.un.mX=_;rw[Dt hp];have:c.isAgg=agg:=by rw[← h1]; cases c <;> rfl
    rw[this]
   ·cases h
  ·cases h
 ·cases h
theorem Du {t:TypeId} {d:Option Nat} (h:vT P H fx cur t d k=some r):Did (ju P t d (aY (un2 fx cur).hp d) []) k r:=by
 unfold vT at h;split at h
 ·rename_i kt et d te hu hh;split at h
  ·rename_i kd agg z hk hz;obtain⟨hc,h⟩:=aG h;rw[Bool.and_eq_true] at hc;obtain⟨x,h,hp⟩:=gz h;refine did (c:=True) _ _ h ?_ trivial;simp only[ju,hu,hk,pz hz hp hc.2];rw[if_pos (jo hc.1)]; rfl
  ·rename_i agg z hk hz;obtain⟨hc,h⟩:=aG h;obtain⟨x,h,hp⟩:=pA h;refine did (c:=True) _ _ h ?_ trivial;simp only[ju,hu,hk,wj hz hp];rw[if_pos (jo hc)]; rfl
  ·rename_i fs agg z hk hz;split at h
   ·rename_i kd hq;obtain⟨hc,h⟩:=aG h;rw[Bool.and_eq_true] at hc;obtain⟨x,h,hp⟩:=gz h;refine did (c:=True) _ _ h ?_ trivial;simp only[ju,hu,hk,pz hz hp hc.2,hq];rw[if_pos (jo hc.1)]; rfl
   ·cases h
  ·cases h
 ·cases h
theorem EC (agg:Bool) (te:Ty) (y:te.den):(NG agg (dR te y)).un=sB agg (enc te y):=by
 have:=jx te y;cases agg with
 | true=>show Cmp.g ((dR te y).map TL.un) = .g _; rw[this]
 | false =>
  show Cmp.v (TL.un (match dR te y with | x::_=>x | []=>.dead)) = .v (.p ((enc te y).headD (.bool false)));cases hl:dR te y with
  | nil =>
   have h1:=Dn te y;rw[hl] at h1;have h2:∀ t:Ty,0<t.cells:=fun t=>by induction t <;> simp [Ty.cells] <;> omega
   have:=h2 te;simp at h1; omega
  | cons l ls =>
   rw[hl,List.map_cons] at this;cases he:enc te y with
   | nil=>rw[he] at this; cases this
   | cons p ps =>
    rw[he,List.map_cons] at this;injection this with h1 h2
    dsimp only;rw[h1]; rfl
theorem rJ {ok agg:Bool} {te:Ty} {q:Option te.den} {z:te.den} (h:sP ok agg te q z k=some r):Did (val (kH ok agg (q.map (enc te)) (enc te z))) k r:=by
 have hg:(q.map (enc te)).getD (enc te z)=enc te (q.getD z):=by cases q <;> rfl
 have hs:(q.map (enc te)).isSome=q.isSome:=by cases q <;> rfl
 unfold sP at h;cases ok with
 | true =>
  refine did (c:=True) _ _ h ?_ trivial;simp only[kH,if_true,val,hg,hs,TSl.un,List.map_cons,List.map_nil,EC]; rfl
 | false =>
  refine did (c:=True) _ _ h ?_ trivial;simp only[kH,Bool.false_eq_true,if_false,val,hg,hs,TSl.un,EC]; rfl
theorem Gi {t:TypeId} {ok:Bool} {m x:TSl} (h:zf P fx cur t ok m x k=some r):Did (gN P t ok [dv fx cur m,dv fx cur x]) k r:=by
 unfold zf at h;split at h
 ·rename_i kt et o hu;split at h
  ·rename_i kd agg2 z hk hz;split at h
   ·rename_i kd2 agg te m kd3 n ho;obtain⟨n,rfl⟩:∃ q:Int,q=n:=⟨n,rfl⟩;split at h
    ·split at h
     ·rename_i kd h1 h2 _ _;obtain⟨ha,h7⟩:=aG h;obtain⟨z0,h8,hp⟩:=gz h7;rw[Bool.and_eq_true,beq_iff_eq] at ha;obtain⟨ha,hf⟩:=ha;have hq:=rJ h8;have e1:=h1.down;have e2:=h2.down;subst e1 e2 ha;rw[← OP] at hq;show Did (gN P t ok [(.c (.v (.mp o)),[(un2 fx cur).hp o]),(.c (.v (.p (.int _ n))),_)]) k r;rw[dA ho];simp only[gN,cV.un,hu,hk,pz hz hp hf];rw[if_pos (by simp)];exact hq
     ·cases h
    ·cases h
   ·rename_i agg te m s ho;obtain⟨s,rfl⟩:∃ q:Bs,q=s:=⟨s,rfl⟩;split at h
    ·obtain⟨ha,h⟩:=aG h;obtain⟨z0,h,hp⟩:=pA h;rw[beq_iff_eq] at ha;have hq:=rJ h;subst ha;rw[← OO] at hq;show Did (gN P t ok [(.c (.v (.mp o)),[(un2 fx cur).hp o]),(.c (.v (.p (.str (mkS s)))),_)]) k r;rw[dA ho];simp only[gN,cV.un,hu,hk,wj hz hp];rw[if_pos (by simp)];exact hq
    ·cases h
   ·rename_i kd2 agg te m kd3 n s ho;obtain⟨n,rfl⟩:∃ q:Int,q=n:=⟨n,rfl⟩;obtain⟨s,rfl⟩:∃ q:Bs,q=s:=⟨s,rfl⟩;split at h
    ·rename_i kd hq0;split at h
     ·rename_i h1 h2 _ _;obtain⟨ha,h7⟩:=aG h;obtain⟨z0,h8,hp⟩:=gz h7;rw[Bool.and_eq_true,beq_iff_eq] at ha;obtain⟨ha,hf⟩:=ha;have hq:=rJ h8;have e1:=h1.down;have e2:=h2.down;subst e1 e2 ha;rw[← OQ] at hq;show Did (gN P t ok [(.c (.v (.mp o)),[(un2 fx cur).hp o]),(.c (.g [.p (.int _ n),.p (.str (mkS s))]),_)]) k r;rw[dA ho];simp only[gN,cV.un,hu,hq0,pz hz hp hf];rw[if_pos (by simp)];exact hq
     ·cases h
    ·cases h
   ·cases h
  ·cases h
 ·cases h
theorem IV {t:TypeId} {ok:Bool} {m x:TSl} (hm:m = .c (.v (.oth (.map none)))) (h:Dh P H t ok x k=some r):Did (gN P t ok [dv fx cur m,dv fx cur x]) k r:=by
 subst hm;unfold Dh at h;split at h
 ·rename_i kt et te hu hh;split at h
  ·rename_i agg z hk hz;split at h
   ·rename_i s;obtain⟨s,rfl⟩:∃ q:Bs,q=s:=⟨s,rfl⟩;obtain⟨z0,h,hp⟩:=pA h;have hq:=rJ h;show Did (gN P t ok [(.c (.v (.p (.oth (.map none)))),_),(.c (.v (.p (.str (mkS s)))),_)]) k r;simp only[gN,hu,hk,wj hz hp];exact hq
   ·cases h
  ·cases h
 ·cases h
theorem rK {t:TypeId} {m x v:TSl} (h:ou P fx cur t m x v k=some r):Did (fQ P t [dv fx cur m,dv fx cur x,dv fx cur v]) k r:=by
 unfold ou at h;split at h
 ·rename_i kt et o c hu;split at h
  ·rename_i kd hk;split at h
   ·rename_i kd2 agg te m kd3 n ho;obtain⟨n,rfl⟩:∃ q:Int,q=n:=⟨n,rfl⟩;split at h
    ·split at h
     ·rename_i kd h1 h2 _ _;obtain⟨ha,h⟩:=aG h;obtain⟨y,h,hp⟩:=gz h;rw[Bool.and_eq_true,beq_iff_eq] at ha;obtain⟨ha,hf⟩:=ha;have e1:=h1.down;have e2:=h2.down;subst e1 e2 ha;refine did (c := ∀ p∈enc te y,p.flat=true) _ _ h ?_ (ki te y hf);show fQ P t [(.c (.v (.mp o)),[(un2 fx cur).hp o]),(.c (.v (.p (.int _ n))),_),(.c c.un,_)]=_;rw[dA ho];simp only[fQ,cV.un,hu,hk,pU hp];rw[if_pos (by simp),PH]; rfl
     ·cases h
    ·cases h
   ·rename_i agg te m s ho;obtain⟨s,rfl⟩:∃ q:Bs,q=s:=⟨s,rfl⟩;split at h
    ·obtain⟨ha,h⟩:=aG h;obtain⟨y,h,hp⟩:=gz h;rw[beq_iff_eq] at ha;subst ha;refine did (c:=True) _ _ h ?_ trivial;show fQ P t [(.c (.v (.mp o)),[(un2 fx cur).hp o]),(.c (.v (.p (.str (mkS s)))),_),(.c c.un,_)]=_;rw[dA ho];simp only[fQ,cV.un,hu,hk,pU hp];rw[if_pos (by simp),PG]; rfl
    ·cases h
   ·rename_i kd2 agg te m kd3 n s ho;obtain⟨n,rfl⟩:∃ q:Int,q=n:=⟨n,rfl⟩;obtain⟨s,rfl⟩:∃ q:Bs,q=s:=⟨s,rfl⟩;split at h
    ·rename_i kd hq0;split at h
     ·rename_i h1 h2 _ _;obtain⟨ha,h⟩:=aG h;obtain⟨y,h,hp⟩:=gz h;rw[Bool.and_eq_true,beq_iff_eq] at ha;obtain⟨ha,hf⟩:=ha;have e1:=h1.down;have e2:=h2.down;subst e1 e2 ha;refine did (c := ∀ p∈enc te y,p.flat=true) _ _ h ?_ (ki te y hf);show fQ P t [(.c (.v (.mp o)),[(un2 fx cur).hp o]),(.c (.g [.p (.int _ n),.p (.str (mkS s))]),_),(.c c.un,_)]=_;rw[dA ho];simp only[fQ,cV.un,hu,hq0,pU hp];rw[if_pos (by simp),show (n,mkS s)=mkQ (n,s) from rfl,PI]; rfl
     ·cases h
    ·cases h
   ·cases h
  ·cases h
 ·cases h
theorem Lb {t t':TypeId} {d:Option Nat} {x y:TSl} (h:MS P H fx cur t t' d x y k=some r):Did (pe P t t' d (aY (un2 fx cur).hp d) [dv fx cur x,dv fx cur y]) k r:=nomatch h
theorem Lc {t t':TypeId} {d:Option Nat} {x:TSl} {s:Bs} (h:Iz P fx cur t t' d x s k=some r):Did (kL P t t' d (aY (un2 fx cur).hp d) [dv fx cur x,dv fx cur (.c (.v (.v .str s)))]) k r:=by
 unfold Iz at h;split at h
 ·rename_i e z' d hu he;obtain⟨hc,h0⟩:=aG h;clear h;rw[Bool.and_eq_true,eU,decide_eq_true_eq] at hc;obtain⟨hz,hf0⟩:=hc;have hf:=jo hf0;clear hf0;have h:=h0;clear h0;have hb:(bJ s).map (enc (.int .u8))=lA (mkS s):=(IT s).symm;have hbl:List.length (α:=Int) (bJ s)=(mkS s).size:=by rw[← tC,← hb]; exact (List.length_map (as:=bJ s) (enc (.int .u8))).symm
  split at h
  ·rename_i ob;split at h
   ·rename_i e' l ho;obtain⟨l,rfl⟩:∃ q:List Int,q=l:=⟨l,rfl⟩;obtain⟨hc,h⟩:=aG h;rw[eU,decide_eq_true_eq] at hc;subst hc;obtain⟨m,hm,h⟩:=bind_some h;obtain⟨hm1,hl⟩:=nF hm;subst hm1;have hl2:(List.map (enc (.int .u8)) l).length+(mkS s).size<=2147483647:=by
     rw[← hbl,show (List.map (enc (.int .u8)) l).length=List.length (α:=Int) l from List.length_map (as:=l) (enc (.int .u8))];exact hl
    refine did (c:=(List.map (enc (.int .u8)) l).length+(mkS s).size<=2147483647) _ _ h ?_ hl2;show kL P t t' (some d) _ [(.c (.v (.own ob)),[(un2 fx cur).hp ob]),(.c (.v (.p (.str (mkS s)))),_)]=_;rw[dA ho];simp only[kL,cV.un,he,hu];rw[if_pos ⟨trivial,rfl,hz,hf⟩];have e1:List.map (enc (.int .u8)) l++lA (mkS s)=List.map (enc (.int .u8)) (l++bJ s):=by rw[← hb]; exact (List.map_append (f:=enc (.int .u8)) (l₁:=l) (l₂:=bJ s)).symm
    rw[e1];rfl
   ·cases h
  ·obtain⟨m,hm,h⟩:=bind_some h;obtain⟨hm1,hl⟩:=nF hm;subst hm1;refine did (c:=(mkS s).size<=2147483647) _ _ h ?_ (by rw[← hbl]; simpa using hl);show kL P t t' (some d) _ [(.c (.v .nil),_),(.c (.v (.p (.str (mkS s)))),_)]=_;simp only[kL,he,hu];rw[if_pos ⟨hz,hf⟩];rw[← hb];rfl
  ·cases h
 ·cases h
theorem Ld {t t':TypeId} {d:Option Nat} {x y:TSl} (h:IB P H fx cur t t' d x y k=some r):Did (mD P t t' d (aY (un2 fx cur).hp d) [dv fx cur x,dv fx cur y]) k r:=by
 unfold IB at h;split at h
 ·rename_i s;obtain⟨y,wr,c,h1,h2,h3⟩:=Lc h;refine⟨y,wr,c,h1,?_,h3⟩;unfold mD;have hn:pe P t t' d (aY (un2 fx cur).hp d) [dv fx cur x,dv fx cur (.c (.v (.v .str s)))]=none:=by
   rfl
  rw[hn];exact h2
 ·obtain⟨y,wr,c,h1,h2,h3⟩:=Lb h;refine⟨y,wr,c,h1,?_,h3⟩;unfold mD;rw[h2]
theorem zm:∀ (xs:List TSl) (l:List Nat),xW xs=some l->nX (xs.map TSl.un)=some l
 | [],l,h=>by
  simp only[xW,Option.some.injEq] at h;subst h; rfl
 | x::xs,l,h=>by
  unfold xW at h;split at h
  ·rename_i heq; cases heq
  ·rename_i o r heq;injection heq with h1 h2
   subst h1 h2;split at h
   ·rename_i l' hl;simp only[Option.some.injEq] at h;subst h;have ih:=zm _ l' hl;show (nX (List.map TSl.un xs)).map (o :: ·)=_;rw[ih]; rfl
   ·cases h
  ·cases h
theorem Be {f:FuncId} {first:Nat} {xs:List TSl} (h:sR f first (xW xs) k=some r):Did (kn (.func f) first (xs.map TSl.un)) k r:=by
 unfold sR at h;split at h
 ·rename_i l hl;split at h
  ·refine did (c:=True) _ _ h ?_ trivial;unfold kn;rw[zm _ _ hl]; rfl
  ·obtain⟨hc,h⟩:=aG h;rw[eU,decide_eq_true_eq] at hc;refine did (c:=True) _ _ h ?_ trivial;unfold kn;rw[zm _ _ hl];dsimp only;rw[if_pos hc]; rfl
 ·cases h
theorem Le {m:Nat} {e t:TypeId} {x i:TSl} (hu:P.underlying t=some (.array m e)) (h:MQ P fx cur m e x i k=some r):Did (yQ P t [dv fx cur x,dv fx cur i]) k r:=nomatch h
theorem IW {t:TypeId} {m x:TSl} (h:Dg P t m x k=some r):Did (uo P t [m.un,x.un]) k r:=nomatch h
theorem Lf {t:TypeId} {o:Nat} {x v:TSl} (h:MR P fx cur t o x v k=some r):Did (yR P t [dv fx cur (.c (.v (.mp o))),dv fx cur x,dv fx cur v]) k r:=nomatch h
theorem IX {t:TypeId} {x:TSl} (h:Di P fx cur t x k=some r):Did (mY P t [dv fx cur x]) k r:=by
 unfold Di at h;split at h
 ·rename_i e2 z2 o a b z he;split at h
  ·rename_i e t' l q zl ho hz;obtain⟨hc,h⟩:=aG h;rw[Bool.and_eq_true,Bool.and_eq_true,eU,eU,decide_eq_true_eq,decide_eq_true_eq] at hc;obtain⟨⟨h1,h2⟩,h3⟩:=hc;obtain⟨z0,h,hp⟩:=gz h;obtain⟨u,hu,h⟩:=bind_some h;have hu:=ld hu;refine did (c:=a.toNat<=b.toNat/\b.toNat<=(l.map (enc t')).length) _ _ h ?_ (by simpa using hu);show mY P t [(.c (.v (.sv o a.toNat b.toNat z)),[(un2 fx cur).hp o])]=_;rw[dA ho];simp only[cV.un,mY,he,pz hz hp h3];rw[if_pos ⟨h1,h2,kO t' z0⟩];simp only[dY,List.map_cons,List.map_nil,cV.un,TSl.un,KX,List.map_append,List.map_take,List.map_drop,List.map_replicate]
  ·cases h
 ·cases h
theorem mJ (s:Bs):(bJ s).length=s.length:=List.length_map ..
theorem Lg {t:TypeId} {x y:TSl} (h:Iy P fx cur t x y k=some r):Did (nk P t [dv fx cur x,dv fx cur y]) k r:=by
 unfold Iy at h;split at h
 ·rename_i e z o he;split at h
  ·rename_i e' t' l ho;obtain⟨hc,h1⟩:=aG h;rw[Bool.and_eq_true,eU,eU,decide_eq_true_eq,decide_eq_true_eq] at hc;obtain⟨he2,hz⟩:=hc;subst he2;obtain⟨t2,m,h2,hm⟩:=mo h1;obtain⟨et,h3⟩:=mr h2;subst et;obtain⟨s,hs,h4⟩:=bind_some h3;obtain⟨hs1,hl⟩:=nF hs;subst hs1;refine did (c:=(l.map (enc t2)).length+(m.map (enc t2)).length<=2147483647/\∀ x∈m.map (enc t2),x.length=t2.cells) _ _ h4 ?_ ⟨by simpa using hl,lh _ _⟩;show nk P t [(.c (.v (.own o)),[(un2 fx cur).hp o]),dv fx cur y]=_;rw[dA ho];simp only[nk,cV.un,he,hm];rw[if_pos ⟨trivial,hz.symm⟩];simp only[dY,List.map_cons,List.map_nil,cV.un];rw[← List.map_append]; rfl
  ·cases h
 ·cases h
theorem Gj {α:Type} {l m r:List α} (h:appT? l m=some r):l≠[]/\m≠[]/\app? l m=some r:=by
 unfold appT? at h;split at h
 ·exact⟨by simp,by simp,h⟩
 ·cases h
theorem Lh {t:TypeId} {d:Option Nat} {t':Ty} {l:List t'.den} {y:TSl} (h:xT P H fx cur t d (.c (.v (.tl t' l))) y k=some r):Did (lR P t d (aY (un2 fx cur).hp d) [dv fx cur (.c (.v (.tl t' l))),dv fx cur y]) k r:=by
 unfold xT at h;dsimp only at h;split at h
 ·rename_i e z d he;obtain⟨hc,h⟩:=aG h;rw[Bool.and_eq_true,eU,decide_eq_true_eq] at hc;obtain⟨hf,hz⟩:=hc;obtain⟨t2,m,h2,hm⟩:=mo h;obtain⟨et,h3⟩:=mr h2;subst et;obtain⟨s,hs,h4⟩:=bind_some h3;obtain⟨a1,a2,a3⟩:=Gj hs;obtain⟨hs1,hl⟩:=nF a3;subst hs1;refine did (c:=(l.map (enc t2)).length+(m.map (enc t2)).length<=2147483647/\l.map (enc t2)≠[]/\m.map (enc t2)≠[]/\(∀ x∈l.map (enc t2),x.length=z)/\∀ x∈m.map (enc t2),x.length=z) _ _ h4 ?_ ⟨by simpa using hl,by simpa using a1,by simpa using a2,by rw[hz]; exact lh _ _,by rw[hz]; exact lh _ _⟩;show lR P t (some d) _ [(.c (.v (.tl (l.map (enc t2)))),_),dv fx cur y]=_;simp only[lR,he,hm];rw[if_pos (jo hf)];simp only[dY,List.map_cons,List.map_nil,cV.un,TSl.un,TC.un,TL.un,List.map_append,hz]
 ·cases h
theorem Dv {t:TypeId} {d:Option Nat} {x y:TSl} (h:xT P H fx cur t d x y k=some r):(∃ t' l,x = .c (.v (.tl t' l)))\/ur P H fx cur t d x y k=some r:=by
 unfold xT at h;split at h
 ·exact .inl ⟨_,_,rfl⟩
 ·exact .inr h
theorem Li {b:BinOp} {t:TypeId} {x y:TSl} (h:MU P fx cur b t x y k=some r):MT b=true/\Did (CN P b t [dv fx cur x,dv fx cur y]) k r:=nomatch h
theorem Lj {t:TypeId} {hl hh:Bool} {d:Option Nat} {x:TSl} {as:List TSl} (h:Es P fx cur t hl hh d x as k=some r):Did (qJ P t hl hh d (aY (un2 fx cur).hp d) (dv fx cur x::as.map (dv fx cur))) k r:=by
 unfold Es at h;split at h
 ·rename_i o d;split at h
  ·rename_i e t' l ho;split at h
   ·rename_i q z i j he hb;obtain⟨hc,h⟩:=aG h;rw[Bool.and_eq_true,eU,decide_eq_true_eq] at hc;obtain⟨m,hm,h⟩:=bind_some h;obtain⟨c1,c2,c3,c4,c5⟩:=nE hm;refine did (c:=0<=i/\i<=j/\j<=((l.map (enc t')).length:Int)) _ _ h ?_ ⟨c2,c3,by simpa using c4⟩;show qJ P t hl hh (some d) _ ((.c (.v (.own o)),[(un2 fx cur).hp o])::as.map (dv fx cur))=_;rw[dA ho];simp only[cV.un,qJ,he];rw[show qm hl hh (l.map (enc t')).length (as.map (dv fx cur))=some (i,j) by rw[List.length_map]; exact rI hb];dsimp only;rw[if_pos ⟨hc.1,jo hc.2⟩];simp only[dY,List.map_cons,List.map_nil,cV.un,TSl.un,TC.un,TL.un,← c1,List.map_drop,List.map_take]
   ·cases h
  ·cases h
 ·cases h
end
end Go.Lad
