import Derived.Test.YtkpefpjpadahiaaGreatDoorD3
namespace Go.Lad
set_option linter.unusedVariables false
set_option linter.unusedSimpArgs false
open Go.RowKit
section
variable {ρ:Type} {P:Program} {H:List (Nat×Ty)} {fx cur:TSt} {k:KE ρ} {r:ρ}
def dv (fx cur:TSt) (x:TSl):Arg:=(x.un,x.un.ids.map (un2 fx cur).hp)
def Did (o:Option Eff) (k:KE ρ) (r:ρ):Prop := ∃ y wr c,k y wr=some r/\o=some ⟨c,y.un,dY wr⟩/\c
theorem did {o:Option Eff} {c:Prop} (y:TSl) (wr:List (Nat×cV)) (h:k y wr=some r) (ho:o=some ⟨c,y.un,dY wr⟩) (hc:c):Did o k r:=⟨y,wr,c,h,ho,hc⟩
theorem dA {o:Nat} {x:cV} (h:obT fx cur o=some x):(un2 fx cur).hp o=some x.un:=by rw[gR,h]; rfl
theorem K7 {b:BinOp} {x y:TSl} (h:Is b x y k=some r):b = .add/\Did (sI [x.un,y.un]) k r:=by
 unfold Is at h;split at h
 ·exact⟨rfl,did _ [] h rfl trivial⟩
 ·cases h
theorem Ex {x:TSl} (h:MP x k=some r):Did (sA [x.un]) k r:=did x [] h rfl trivial
theorem IL (c:Bool) (X Y:Slot):qE [.c (.v (.p (.bool c))),X,Y]=val (bif c then X else Y):=by
 unfold qE;split
 ·rename_i c' x y heq;simp only[List.cons.injEq,Slot.c.injEq,Cmp.v.injEq,aJ.p.injEq,PV.bool.injEq,and_true] at heq;obtain⟨rfl,rfl,rfl⟩:=heq;cases c <;> rfl
 ·rename_i c' x y _ heq;simp only[List.cons.injEq,Slot.c.injEq,Cmp.v.injEq,aJ.p.injEq,PV.bool.injEq,and_true] at heq;obtain⟨rfl,rfl,rfl⟩:=heq;rfl
 ·rename_i h1 h2; exact absurd rfl (h2 c X Y)
theorem K8 {c x y:TSl} (h:Io c x y k=some r):Did (qE [c.un,x.un,y.un]) k r:=by
 unfold Io at h;split at h
 ·rename_i c;obtain⟨c,rfl⟩:∃ m:Bool,m=c:=⟨c,rfl⟩;rw[show (TSl.c (.v (.v .bool c))).un=Slot.c (.v (.p (.bool c))) from rfl,IL];split at h
  ·rename_i x y;exact did _ _ h (by cases c <;> rfl) trivial
  ·exact did _ _ h (by cases c <;> rfl) trivial
 ·cases h
theorem IM {t:TypeId} {d:Option Nat} (h:C9 P fx cur t d k=some r):Did (jF P t d (aY (un2 fx cur).hp d) []) k r:=by
 unfold C9 at h;split at h
 ·rename_i d cs hz;obtain⟨h1,h2⟩:=aG h;refine did (c:=True) _ _ h2 ?_ trivial;unfold jF;simp only[A7 hz,jo h1,if_true];rfl
 ·cases h
theorem IN {ps:List PV} {off n:Nat} {agg:Bool} {c:Cmp} (h:nU (ps.map aJ.p) off n agg=some c):(agg=true->off+n<=ps.length/\c = .g (((ps.drop off).take n).map .p))/\(agg=false->off<ps.length/\c = .v (.p (ps.getD off (.bool false)))):=by
 unfold nU at h;cases agg with
 | true =>
  refine⟨fun _=>?_,(fun h=>nomatch h)⟩;simp only[if_true,List.length_map] at h;split at h
  ·rename_i hl;injection h with h
   exact⟨hl,by rw[← h,List.map_take,List.map_drop]⟩
  ·cases h
 | false =>
  refine⟨(fun h=>nomatch h),fun _=>?_⟩;simp only[Bool.false_eq_true,if_false,List.getElem?_map] at h;cases hp:ps[off]? with
  | none=>rw[hp] at h; cases h
  | some p =>
   rw[hp] at h;injection h with h
   exact⟨(List.getElem?_eq_some_iff.1 hp).1,by rw[← h,List.getD_eq_getElem?_getD,hp]; rfl⟩
theorem ux {t:TypeId} {x:TSl} (h:Ip P fx cur t x k=some r):Did (k7 P t [dv fx cur x]) k r:=by
 unfold Ip at h;split at h
 ·cases h
 ·rename_i n hn;split at h
  ·rename_i o off;split at h
   ·rename_i bt cs ho;split at h
    ·rename_i c hc;refine did (c:=True) _ _ h ?_ trivial;show k7 P t [(.c (.v (.loc o off)),[(un2 fx cur).hp o])]=_;rw[dA ho];simp only[k7,cV.un,hn,rF hc];rfl
    ·cases h
   ·cases h
  ·rename_i t' x off;split at h
   ·rename_i c hc;have h1:=rF hc;rw[jx] at h1;obtain⟨h2,h3⟩:=IN h1;show Did (k7 P t [(.c (.v (.ip (enc t' x) off)),_)]) k r;simp only[k7,hn];cases hg:fW P t with
    | true =>
     obtain⟨h4,h5⟩:=h2 hg;exact did (c:=off+n<=(enc t' x).length) _ _ h (by rw[if_pos rfl,show (TSl.c c).un = .c c.un from rfl,h5]; rfl) h4
    | false =>
     obtain⟨h4,h5⟩:=h3 hg;exact did (c:=off<(enc t' x).length) _ _ h (by rw[if_neg (by simp),show (TSl.c c).un = .c c.un from rfl,h5]; rfl) h4
   ·cases h
  ·rename_i o i off z;split at h
   ·rename_i e t' l ho;obtain⟨hz,h⟩:=aG h;rw[eU,decide_eq_true_eq] at hz;obtain⟨x,hx,h⟩:=bind_some h;split at h
    ·rename_i c hc;have h1:=rF hc;rw[jx] at h1;obtain⟨h2,h3⟩:=IN h1;obtain⟨i1,i2,i3⟩:=mG hx;have hg:=y7 (enc t') hx;show Did (k7 P t [(.c (.v (.el o i.toNat off z)),[(un2 fx cur).hp o])]) k r;rw[dA ho];simp only[k7,cV.un,hn,hz,if_true];rw[hg];rw[kO] at h2 h3;cases ha:fW P t with
     | true =>
      obtain⟨h4,h5⟩:=h2 ha;exact did (c:=i.toNat<(l.map (enc t')).length/\off+n<=t'.cells) _ _ h (by rw[if_pos rfl,show (TSl.c c).un = .c c.un from rfl,h5]; rfl) ⟨by simpa using i2,h4⟩
     | false =>
      obtain⟨h4,h5⟩:=h3 ha;exact did (c:=i.toNat<(l.map (enc t')).length/\off<t'.cells) _ _ h (by rw[if_neg (by simp),show (TSl.c c).un = .c c.un from rfl,h5]; rfl) ⟨by simpa using i2,h4⟩
    ·cases h
   ·cases h
  ·cases h
def unP:aJ->PV
 | .p p=>p
 | _=>.bool false
theorem OZ {A B C:List aJ} {qs:List PV} (h:A++B++C=qs.map aJ.p):B=(B.map unP).map aJ.p:=by
 rw[List.map_map];have:∀ x∈B,(aJ.p ∘ unP) x=x:=fun x hx=>by
  have:x∈qs.map aJ.p:=by rw[← h]; simp [hx]
  obtain⟨p,_,rfl⟩:=List.mem_map.1 this;rfl
 conv=>lhs; rw[← List.map_id B]
 exact List.map_congr_left fun x hx=>(this x hx).symm
theorem O0 {a b:List PV} (h:a.map aJ.p=b.map aJ.p):a=b:=by
 have:=congrArg (List.map unP) h
 simpa [List.map_map,Function.comp_def,unP] using this
theorem IP {t:TypeId} {x v:TSl} (h:Da P fx cur t x v k=some r):Did (ma P t [dv fx cur x,dv fx cur v]) k r:=by
 unfold Da at h;split at h
 ·rename_i n c hn;split at h
  ·rename_i o off;split at h
   ·rename_i bt cs ho;obtain⟨hc,h⟩:=aG h;rw[Bool.and_eq_true,eU,il,decide_eq_true_eq,decide_eq_true_eq] at hc;refine did (c:=True) _ _ h ?_ trivial;show ma P t [(.c (.v (.loc o off)),[(un2 fx cur).hp o]),(.c c.un,_)]=_;rw[dA ho];simp only[ma,cV.un,hn,kx,List.length_map];rw[if_pos hc];simp only[dY,List.map_cons,List.map_nil,cV.un,List.map_append,List.map_take,List.map_drop,TSl.un]
   ·cases h
  ·rename_i o i off z;split at h
   ·rename_i e t' l ho;obtain⟨hc,h⟩:=aG h;simp only[Bool.and_eq_true,eU,il,decide_eq_true_eq] at hc;obtain⟨⟨hz,hl⟩,hoz⟩:=hc;obtain⟨x,hx,h⟩:=bind_some h;obtain⟨y,h,hp⟩:=gz h;obtain⟨i1,i2,i3⟩:=mG hx;have hg:=y7 (enc t') hx;rw[List.map_append,List.map_append,List.map_take,List.map_drop,jx] at hp;have hm:=OZ hp;have hps:dZ c.un.leaves=some ((c.leaves.map TL.un).map unP):=by
     rw[kx];conv=>lhs; rw[hm]
     exact zg _
    have hy:(enc t' x).take off++(c.leaves.map TL.un).map unP++(enc t' x).drop (off+n)=enc t' y:=by
     apply O0;rw[List.map_append,List.map_append,← hm,List.map_take,List.map_drop];exact hp
    refine did (c:=i.toNat<(l.map (enc t')).length/\off+n<=z) _ _ h ?_ ⟨by simpa using i2,hoz⟩;show ma P t [(.c (.v (.el o i.toNat off z)),[(un2 fx cur).hp o]),(.c c.un,_)]=_;rw[dA ho];simp only[ma,cV.un,hn,hps];rw[if_pos ⟨hz,by simpa using hl⟩,hg,hy];simp only[dY,List.map_cons,List.map_nil,cV.un,List.map_set,TSl.un,hz]
   ·cases h
  ·cases h
 ·cases h
theorem NV {x:TSl} (h:Ns x k=some r):Did (Ag [x.un]) k r:=by
 unfold Ns at h;split at h
 ·exact did _ _ h rfl trivial
 ·exact did _ _ h rfl trivial
 ·exact did _ _ h rfl trivial
 ·cases h
theorem zh {t:TypeId} {f:Nat} {x:TSl} (h:qN P t f x k=some r):Did (iS P t f [x.un]) k r:=by
 unfold qN at h;split at h
 ·rename_i j a b hf;split at h
  ·exact did (c:=True) _ _ h (by simp only[TSl.un,TC.un,TL.un,iS,hf]; rfl) trivial
  ·exact did (c:=True) _ _ h (by simp only[TSl.un,TC.un,TL.un,iS,hf]; rfl) trivial
  ·exact did (c:=True) _ _ h (by simp only[TSl.un,TC.un,TL.un,iS,hf]; rfl) trivial
  ·cases h
 ·cases h
theorem IQ {t:TypeId} {f:Nat} {x:TSl} (h:Db P t f x k=some r):Did (pJ P t f [x.un]) k r:=by
 unfold Db at h;split at h
 ·rename_i j n agg xs hf;split at h
  ·rename_i c hc;exact did (c:=True) _ _ h (by simp only[TSl.un,TC.un,pJ,hf,rF hc]; rfl) trivial
  ·cases h
 ·cases h
theorem A8 {a b n:Int} {m:Nat} {u:Unit} (h:Iq a b n m=some u):0<=a/\0<=n/\n<b-a/\b<=m:=ld h
theorem zi {t:TypeId} {x i:TSl} (h:qO P fx cur t x i k=some r):Did (eN P t [dv fx cur x,dv fx cur i]) k r:=by
 unfold qO at h;split at h
 ·rename_i e z kd n he;obtain⟨n,rfl⟩:∃ m:Int,m=n:=⟨n,rfl⟩;split at h
  ·rename_i t' l;obtain⟨l,rfl⟩:∃ m:List t'.den,m=l:=⟨l,rfl⟩;obtain⟨hz,h⟩:=aG h;rw[eU,decide_eq_true_eq] at hz;obtain⟨x,hx,h⟩:=bind_some h;obtain⟨i1,i2,i3⟩:=mG hx;have hg:=y7 (enc t') hx;refine did (c:=0<=n/\n.toNat<(List.map (enc t') l).length/\((List.map (enc t') l).getD n.toNat []).length=z) _ _ h ?_ ⟨i1,by simpa using i2,by rw[hg,kO,hz]⟩;show eN P t [(.c (.v (.p (.sl (List.map (enc t') l)))),_),(.c (.v (.p (.int kd n))),_)]=_;simp only[eN,he,dS];rw[hg]; rfl
  ·rename_i o;split at h
   ·rename_i e' t' l ho;obtain⟨hz,h⟩:=aG h;rw[eU,decide_eq_true_eq] at hz;obtain⟨x,hx,h⟩:=bind_some h;obtain⟨i1,i2,i3⟩:=mG hx;refine did (c:=0<=n/\n.toNat<(l.map (enc t')).length) _ _ h ?_ ⟨i1,by simpa using i2⟩;show eN P t [(.c (.v (.own o)),[(un2 fx cur).hp o]),(.c (.v (.p (.int kd n))),_)]=_;rw[dA ho];simp only[eN,cV.un,he,hz,if_true,dS];rfl
   ·cases h
  ·rename_i o a b z2;split at h
   ·rename_i e' t' l ho;obtain⟨hz,h⟩:=aG h;rw[Bool.and_eq_true,eU,eU,decide_eq_true_eq,decide_eq_true_eq] at hz;obtain⟨u,hu,h⟩:=bind_some h;obtain⟨u1,u2,u3,u4⟩:=A8 hu;refine did (c:=0<=n/\n.toNat<b.toNat-a.toNat/\b.toNat<=(l.map (enc t')).length) _ _ h ?_ ⟨u2,by omega,by simp; omega⟩;show eN P t [(.c (.v (.sv o a.toNat b.toNat z2)),[(un2 fx cur).hp o]),(.c (.v (.p (.int kd n))),_)]=_;rw[dA ho];simp only[eN,cV.un,he];rw[if_pos ⟨hz.1,by rw[hz.2,hz.1]⟩];simp only[dS,TSl.un,TC.un,TL.un,dY,List.map_nil];have:(Nt a n).toNat=a.toNat+n.toNat:=by unfold Nt; omega
    rw[this]
   ·cases h
  ·cases h
 ·cases h
theorem Dp (t:Ty):uq t=ox t:=by cases t <;> rfl
theorem A9 {t:Ty} (hl:ox t=true):∀ (ls:List TL) (k:List t.den->Option ρ),Er t ls k=some r->∃ l ps,k l=some r/\dZ (ls.map TL.un)=some ps/\ps.length=l.length/\ls.length=l.length/\∀ (i:Nat) x,l[i]?=some x->∃ p,ps[i]?=some p/\(TL.v t x).un = .p p
 | [],k,h=>⟨[],[],h,rfl,rfl,rfl,fun i x hx=>by simp at hx⟩
 | .v t' x::ls,k,h=>by
  unfold Er at h;obtain⟨e,h⟩:=gm h;subst e;obtain⟨l,ps,h1,h2,h3,h4,h5⟩:=A9 hl ls _ h;obtain⟨p,hp,hu⟩:=px hl x;refine⟨_,p::ps,h1,?_,by simp [h3],by simp [h4],fun i y hy=>?_⟩
  ·rw[List.map_cons,hu];show (dZ (ls.map TL.un)).map (p :: ·)=_;rw[h2]; rfl
  ·cases i with
   | zero =>
    have:x=y:=by simpa [lf] using hy
    subst this;exact⟨p,rfl,hu⟩
   | succ i=>exact h5 i y (by simpa using hy)
 | .dead::_,k,h=>by cases h
 | .nil::_,k,h=>by cases h
 | .loc _ _::_,k,h=>by cases h
 | .own _::_,k,h=>by cases h
 | .el _ _ _ _::_,k,h=>by cases h
 | .ip _ _ _::_,k,h=>by cases h
 | .mp _::_,k,h=>by cases h
 | .fn _ _::_,k,h=>by cases h
 | .sv _ _ _ _::_,k,h=>by cases h
 | .ps _::_,k,h=>by cases h
 | .oth _::_,k,h=>by cases h
 | .nb _ _ _::_,k,h=>by cases h
theorem IS {t:TypeId} {x i:TSl} (h:Dc P t x i k=some r):Did (lY P t [x.un,i.un]) k r:=by
 unfold Dc at h;split at h
 ·rename_i s kd n hu;obtain⟨n,rfl⟩:∃ m:Int,m=n:=⟨n,rfl⟩;obtain⟨s,rfl⟩:∃ m:Bs,m=s:=⟨s,rfl⟩;obtain⟨c,hc,h⟩:=bind_some h;obtain⟨b1,b2,b3⟩:=Ii hc;refine did (c:=0<=n/\n.toNat<(mkS s).size) _ _ h ?_ ⟨b1,by rw[eI]; exact b2⟩;show lY P t [.c (.v (.p (.str (mkS s)))),.c (.v (.p (.int kd n)))]=_;simp only[lY,hu,gw];rw[b3]; rfl
 ·rename_i m e xs kd n hu;obtain⟨n,rfl⟩:∃ m:Int,m=n:=⟨n,rfl⟩;split at h
  ·rename_i t' x0 r0 hsz;obtain⟨hc,h⟩:=aG h;simp only[Bool.and_eq_true,eU,decide_eq_true_eq,Bool.not_eq_true'] at hc;obtain⟨⟨hm,hag⟩,hlf⟩:=hc;rw[Dp] at hlf;obtain⟨l,ps,h1,h2,h3,h4,h5⟩:=A9 hlf _ _ h;obtain⟨y,hy,h1⟩:=bind_some h1;obtain⟨i1,i2,i3⟩:=mG hy;obtain⟨p,hp,hu2⟩:=h5 _ _ i3;refine did (c:=0<=n/\n.toNat<ps.length) _ _ h1 ?_ ⟨i1,by omega⟩;have e1:(tV t' y).un = .p p:=by
    show Slot.c (.v (TL.v t' y).un)=_;rw[hu2]
   rw[e1];show lY P t [.c (.g ((TL.v t' x0::r0).map TL.un)),.c (.v (.p (.int kd n)))]=_;simp only[lY,hu,hsz,h2];rw[if_pos ⟨by omega,hag⟩,List.getD_eq_getElem?_getD,hp];rfl
  ·cases h
 ·cases h
theorem rG {n m:Int} (h:z64 n=some m):n=m/\inK .i64 n:=by
 rw[zb] at h;obtain⟨h1,h2⟩:=Ih h;exact⟨h1,h2⟩
theorem zj {k:IntKind} {n:Int} (h:inZ k n=true):inK k n:=by
 unfold inZ at h;rw[Bool.and_eq_true,iv,iv,decide_eq_true_eq,decide_eq_true_eq] at h;exact h
theorem Gb {k:IntKind} {a b m:Int} (h:Nr k a b=some m):a.tdiv b=m/\b≠0/\inK k (a.tdiv b):=by
 unfold Nr at h;obtain⟨h1,h2⟩:=aG h;rw[Bool.and_eq_true,fE] at h1;injection h2 with h2
 exact⟨h2,by simpa using h1.1,zj h1.2⟩
theorem Gc {k:IntKind} {a b m:Int} (h:KW k a b=some m):a.tmod b=m/\b≠0/\inK k (a.tmod b):=by
 unfold KW at h;obtain⟨h1,h2⟩:=aG h;rw[Bool.and_eq_true,fE] at h1;injection h2 with h2
 exact⟨h2,by simpa using h1.1,zj h1.2⟩
theorem NW {op:BinOp} {kd:IntKind} {a b:Int} (h:Nv op kd a b k=some r):Did (kE op kd a b) k r:=by
 unfold Nv at h;split at h
 ·split at h
  ·rename_i hk _;obtain⟨c,hc,h⟩:=bind_some h;obtain⟨rfl,hi⟩:=rG hc;refine did (c:=inK .i64 (a+b)) _ _ h ?_ hi;simp only[kE,hk.down,if_true]; rfl
  ·rename_i hk;refine did (c:=True) _ _ h ?_ trivial;have:kd ≠ .i64:=fun e=>by unfold IntKind.same at hk; rw[dif_pos e] at hk; cases hk
   simp only[kE,this,if_false]; rfl
 ·split at h
  ·rename_i hk _;obtain⟨c,hc,h⟩:=bind_some h;obtain⟨rfl,hi⟩:=rG hc;refine did (c:=inK .i64 (a-b)) _ _ h ?_ hi;simp only[kE,hk.down,if_true]; rfl
  ·rename_i hk;refine did (c:=True) _ _ h ?_ trivial;have:kd ≠ .i64:=fun e=>by unfold IntKind.same at hk; rw[dif_pos e] at hk; cases hk
   simp only[kE,this,if_false]; rfl
 ·split at h
  ·rename_i hk _;obtain⟨c,hc,h⟩:=bind_some h;obtain⟨rfl,hi⟩:=rG hc;refine did (c:=inK .i64 (a * b)) _ _ h ?_ hi;simp only[kE,hk.down,if_true]; rfl
  ·rename_i hk;refine did (c:=True) _ _ h ?_ trivial;have:kd ≠ .i64:=fun e=>by unfold IntKind.same at hk; rw[dif_pos e] at hk; cases hk
   simp only[kE,this,if_false]; rfl
 ·obtain⟨c,hc,h⟩:=bind_some h;obtain⟨rfl,h1⟩:=Gb hc;exact did (c:=b≠0/\inK kd (a.tdiv b)) _ _ h rfl h1
 ·obtain⟨c,hc,h⟩:=bind_some h;obtain⟨rfl,h1⟩:=Gc hc;exact did (c:=b≠0/\inK kd (a.tmod b)) _ _ h rfl h1
 ·exact did (c:=True) _ _ h (by rw[fE]; rfl) trivial
 ·exact did (c:=True) _ _ h (by rw[fE]; rfl) trivial
 ·exact did (c:=True) _ _ h (by rw[dP]; rfl) trivial
 ·exact did (c:=True) _ _ h (by rw[iv]; rfl) trivial
 ·exact did (c:=True) _ _ h (by rw[dP]; rfl) trivial
 ·exact did (c:=True) _ _ h (by rw[iv]; rfl) trivial
 ·cases h
theorem Gd {k:IntKind} {a n m:Int} (h:Nu k a n=some m):Az k a n=m/\0<=n/\inK k (Az k a n):=by
 unfold Nu at h;obtain⟨hc,h⟩:=aG h;rw[Bool.and_eq_true,iv,decide_eq_true_eq] at hc;injection h with h
 exact⟨h,hc.1,zj hc.2⟩
theorem Ge {k:IntKind} {a n m:Int} (h:Ir k a n=some m):Kt k a n=m/\0<=n:=by
 unfold Ir at h;obtain⟨hc,h⟩:=aG h;rw[iv,decide_eq_true_eq] at hc;injection h with h
 exact⟨h,hc⟩
theorem O1 {op:BinOp} {P:Program} {t:TypeId} {x y:TSl} (h:tSh op x y k=some r):kY P op t [x.un,y.un]=none/\oN P op t [x.un,y.un]=none/\Did (CJ op [x.un,y.un]) k r:=by
 unfold tSh at h;split at h
 ·rename_i kd a kd2 n;obtain⟨a,rfl⟩:∃ q:Int,q=a:=⟨a,rfl⟩;obtain⟨n,rfl⟩:∃ q:Int,q=n:=⟨n,rfl⟩;show kY P op t [.c (.v (.p (.int kd a))),.c (.v (.p (.int kd2 n)))]=none/\oN P op t [.c (.v (.p (.int kd a))),.c (.v (.p (.int kd2 n)))]=none/\Did (CJ op [.c (.v (.p (.int kd a))),.c (.v (.p (.int kd2 n)))]) k r;refine⟨?_,rfl,?_⟩
  ·show (if kd=kd2 then kE op kd a n else none)=none;split
   ·cases op <;> first | rfl | cases h
   ·rfl
  split at h
  ·obtain⟨c,hc,h⟩:=bind_some h;obtain⟨rfl,h1⟩:=Ge hc;exact did (c:=0<=n) _ _ h rfl h1
  ·obtain⟨c,hc,h⟩:=bind_some h;obtain⟨rfl,h1⟩:=Gd hc;exact did (c:=0<=n/\inK kd (Az kd a n)) _ _ h rfl h1
  ·split at h
   ·rename_i hk _;exact did (c:=True) _ _ h (by show (if kd=kd2 then val (.p (.int kd (Kr kd a n))) else none)=_; rw[if_pos hk.down]; rfl) trivial
   ·cases h
  ·split at h
   ·rename_i hk _;exact did (c:=True) _ _ h (by show (if kd=kd2 then val (.p (.int kd (orI kd a n))) else none)=_; rw[if_pos hk.down]; rfl) trivial
   ·cases h
  ·split at h
   ·rename_i hk _;exact did (c:=True) _ _ h (by show (if kd=kd2 then val (.p (.int kd (Ks kd a n))) else none)=_; rw[if_pos hk.down]; rfl) trivial
   ·cases h
  ·split at h
   ·rename_i hk _;exact did (c:=True) _ _ h (by show (if kd=kd2 then val (.p (.int kd (anI kd a n))) else none)=_; rw[if_pos hk.down]; rfl) trivial
   ·cases h
  ·cases h
 ·cases h
theorem NX {op:BinOp} {a b:Bs} (h:Nw op a b k=some r):Did (k8 op (mkS a) (mkS b)) k r:=by
 have hd:decide (mkS a=mkS b)=decide (a=b):=by rw[Bool.eq_iff_iff]; simp [y5]
 unfold Nw at h;split at h
 ·obtain⟨c,hc,h⟩:=bind_some h;obtain⟨rfl,h1⟩:=Ij hc;exact did (c:=(mkS a).size+(mkS b).size<=9223372036854775807) _ _ h (by simp only[k8,KR]; rfl) (by rw[eI,eI]; exact h1)
 ·exact did (c:=True) _ _ h (by simp only[k8]; rw[hd]; rfl) trivial
 ·exact did (c:=True) _ _ h (by simp only[k8]; rw[hd]; rfl) trivial
 ·exact did (c:=True) _ _ h (by simp only[k8,ot]; rfl) trivial
 ·exact did (c:=True) _ _ h (by simp only[k8,ot]; rw[hd]; rfl) trivial
 ·exact did (c:=True) _ _ h (by simp only[k8,ot]; rw[hd]; rfl) trivial
 ·exact did (c:=True) _ _ h (by simp only[k8,ot]; rfl) trivial
 ·cases h
theorem NY {op:BinOp} {t:TypeId} {x y:TSl} (h:Nx P op t x y k=some r):Did (kY P op t [x.un,y.un]) k r:=by
 unfold Nx at h;split at h
 ·rename_i kd a kd' b;split at h
  ·rename_i hk _;have:=NW h;show Did (if kd=kd' then kE op kd a b else none) k r;rw[if_pos hk.down]; exact this
  ·cases h
 ·exact NX h
 ·rename_i a b;split at h
  ·rename_i hu; exact did (c:=True) _ _ h (by simp only[TSl.un,TC.un,TL.un,enc,kY,hu]; rfl) trivial
  ·rename_i hu; exact did (c:=True) _ _ h (by simp only[TSl.un,TC.un,TL.un,enc,kY,hu]; rfl) trivial
  ·cases h
 ·rename_i t' l;split at h
  ·rename_i hu; exact did (c:=True) _ _ h (by simp only[TSl.un,TC.un,TL.un,enc,kY,hu]; rfl) trivial
  ·rename_i hu; exact did (c:=True) _ _ h (by simp only[TSl.un,TC.un,TL.un,enc,kY,hu]; rfl) trivial
  ·cases h
 ·split at h
  ·rename_i hu; exact did (c:=True) _ _ h (by simp only[TSl.un,TC.un,TL.un,enc,kY,hu]; rfl) trivial
  ·rename_i hu; exact did (c:=True) _ _ h (by simp only[TSl.un,TC.un,TL.un,enc,kY,hu]; rfl) trivial
  ·cases h
 ·split at h
  ·rename_i hu; exact did (c:=True) _ _ h (by simp only[TSl.un,TC.un,TL.un,enc,kY,hu]; rfl) trivial
  ·rename_i hu; exact did (c:=True) _ _ h (by simp only[TSl.un,TC.un,TL.un,enc,kY,hu]; rfl) trivial
  ·cases h
 ·split at h
  ·rename_i hu; exact did (c:=True) _ _ h (by simp only[TSl.un,TC.un,TL.un,enc,kY,hu]; rfl) trivial
  ·rename_i hu; exact did (c:=True) _ _ h (by simp only[TSl.un,TC.un,TL.un,enc,kY,hu]; rfl) trivial
  ·cases h
 ·cases h
theorem O2 {op:BinOp} {t:TypeId} {c:Bool} (h:tNI P op t c k=some r):Did (AA P op t c [TSl.un (.c (.v (.oth .nilIface))),TSl.un (.c (.v (.oth .nilIface)))]) k r:=by
 unfold tNI at h;split at h
 ·rename_i hu; exact did (c:=True) _ _ h (by simp only[TSl.un,TC.un,TL.un,enc,AA,hu]; rfl) trivial
 ·rename_i hu; exact did (c:=True) _ _ h (by simp only[TSl.un,TC.un,TL.un,enc,AA,hu]; rfl) trivial
 ·cases h
theorem K9 {t:Ty} {x y:t.den} {b:Bool} (h:Nz t x y=some b):∃ p q,(TL.v t x).un = .p p/\(TL.v t y).un = .p q/\FG p q=some b:=by
 cases t with
 | int k =>
  obtain⟨x,rfl⟩:∃ m:Int,m=x:=⟨x,rfl⟩;obtain⟨y,rfl⟩:∃ m:Int,m=y:=⟨y,rfl⟩;have h:some (eqZ x y)=some b:=h;simp only[Option.some.injEq] at h;subst h;refine⟨.int k x,.int k y,rfl,rfl,?_⟩;unfold FG;dsimp only;rw[if_pos rfl,fE]
 | str =>
  obtain⟨x,rfl⟩:∃ m:Bs,m=x:=⟨x,rfl⟩;obtain⟨y,rfl⟩:∃ m:Bs,m=y:=⟨y,rfl⟩;have h:some (Ny x y)=some b:=h;simp only[Option.some.injEq] at h;subst h;refine⟨.str (mkS x),.str (mkS y),rfl,rfl,?_⟩;unfold FG Ny;dsimp only;congr 1;rw[decide_eq_decide,y5]
 | bool =>
  simp only[Nz,Option.some.injEq] at h;subst h;exact⟨_,_,rfl,rfl,rfl⟩
 | any=>cases h
 | sl e=>cases h
 | map kd e=>cases h
 | slu i=>cases h
 | pair a b=>cases h
theorem Ey:∀ (xs ys:List TL) (b:Bool),jT xs ys=some b->∃ ps qs,dZ (xs.map TL.un)=some ps/\dZ (ys.map TL.un)=some qs/\kK ps qs=some b
 | [],[],b,h=>by
  simp only[jT,Option.some.injEq] at h;subst h;exact⟨[],[],rfl,rfl,rfl⟩
 | .v t x::xs,.v t' y::ys,b,h=>by
  unfold jT at h;split at h
  ·rename_i hs _;obtain⟨e⟩:=hs;subst e;split at h
   ·rename_i a ha;obtain⟨p,q,hp,hq,hpq⟩:=K9 ha;have hq:(TL.v t' y).un = .p q:=hq;have fin:∀ c,jT xs ys=some c->∃ ps qs,dZ ((TL.v t' x::xs).map TL.un)=some ps/\dZ ((TL.v t' y::ys).map TL.un)=some qs/\kK ps qs=some (a && c):=fun c hc=>by
     obtain⟨ps,qs,h1,h2,h3⟩:=Ey xs ys c hc;refine⟨p::ps,q::qs,?_,?_,?_⟩
     ·rw[List.map_cons,hp]; show (dZ (xs.map TL.un)).map (p :: ·)=_; rw[h1]; rfl
     ·rw[List.map_cons,hq]; show (dZ (ys.map TL.un)).map (q :: ·)=_; rw[h2]; rfl
     ·unfold kK; rw[hpq,h3]
    split at h
    ·simp only[Option.some.injEq] at h;subst h;have:=fin true rfl
     rwa [Bool.and_true] at this
    ·split at h
     ·rename_i c hc;simp only[Option.some.injEq] at h;subst h;exact fin c hc
     ·cases h
   ·cases h
  ·cases h
 | [],_::_,b,h=>by unfold jT at h; cases h
 | .v _ _::_,[],b,h=>by unfold jT at h; cases h
 | .dead::_,_,b,h=>by unfold jT at h; cases h
 | .nil::_,_,b,h=>by unfold jT at h; cases h
 | .loc _ _::_,_,b,h=>by unfold jT at h; cases h
 | .own _::_,_,b,h=>by unfold jT at h; cases h
 | .el _ _ _ _::_,_,b,h=>by unfold jT at h; cases h
 | .ip _ _ _::_,_,b,h=>by unfold jT at h; cases h
 | .mp _::_,_,b,h=>by unfold jT at h; cases h
 | .fn _ _::_,_,b,h=>by unfold jT at h; cases h
 | .sv _ _ _ _::_,_,b,h=>by unfold jT at h; cases h
 | .ps _::_,_,b,h=>by unfold jT at h; cases h
 | .oth _::_,_,b,h=>by unfold jT at h; cases h
 | .nb _ _ _::_,_,b,h=>by unfold jT at h; cases h
 | .v _ _::_,.dead::_,b,h=>by unfold jT at h; cases h
 | .v _ _::_,.nil::_,b,h=>by unfold jT at h; cases h
 | .v _ _::_,.loc _ _::_,b,h=>by unfold jT at h; cases h
 | .v _ _::_,.own _::_,b,h=>by unfold jT at h; cases h
 | .v _ _::_,.el _ _ _ _::_,b,h=>by unfold jT at h; cases h
 | .v _ _::_,.ip _ _ _::_,b,h=>by unfold jT at h; cases h
 | .v _ _::_,.mp _::_,b,h=>by unfold jT at h; cases h
 | .v _ _::_,.fn _ _::_,b,h=>by unfold jT at h; cases h
 | .v _ _::_,.sv _ _ _ _::_,b,h=>by unfold jT at h; cases h
 | .v _ _::_,.ps _::_,b,h=>by unfold jT at h; cases h
 | .v _ _::_,.oth _::_,b,h=>by unfold jT at h; cases h
 | .v _ _::_,.nb _ _ _::_,b,h=>by unfold jT at h; cases h
theorem NZ {op:BinOp} {t:TypeId} {xs ys:List TL} (h:NA P op t xs ys k=some r):Did (oN P op t [TSl.un (.c (.g xs)),TSl.un (.c (.g ys))]) k r:=by
 unfold NA at h;split at h
 ·rename_i fs hst;obtain⟨ps0,hps,h⟩:=bind_some h;obtain⟨hc,h⟩:=aG h;rw[Bool.and_eq_true,Bool.and_eq_true] at hc;have key:∀ b,jT xs ys=some b->∃ ps qs,dZ (xs.map TL.un)=some ps/\dZ (ys.map TL.un)=some qs/\kK ps qs=some b/\nY P 0 fs.toList ps=true:=fun b hb=>by
   obtain⟨ps,qs,h1,h2,h3⟩:=Ey xs ys b hb;rw[hps] at h1;injection h1 with h1
   subst h1;exact⟨ps0,qs,hps,h2,h3,hc.1.1⟩
  cases he:jT xs ys with
  | none=>rw[he] at h; cases op <;> cases h
  | some b =>
   rw[he] at h;obtain⟨ps,qs,h1,h2,h3,h4⟩:=key _ he;cases op <;> first | (cases h; done) | skip
   ·refine did (c:=True) _ _ h ?_ trivial;show oN P .eql t [.c (.g (xs.map TL.un)),.c (.g (ys.map TL.un))]=_;simp only[oN,hst,h1,h2];rw[if_pos (by rw[h4,hc.1.2,hc.2]; rfl),h3];rfl
   ·refine did (c:=True) _ _ h ?_ trivial;show oN P .neq t [.c (.g (xs.map TL.un)),.c (.g (ys.map TL.un))]=_;simp only[oN,hst,h1,h2];rw[if_pos (by rw[h4,hc.1.2,hc.2]; rfl),h3];rfl
 ·cases h
theorem O3 {op:UnOp} {x:TSl} (h:tUn op x k=some r):Did (Hi op [x.un]) k r:=by
 unfold tUn at h;split at h
 ·exact did (c:=True) _ _ h rfl trivial
 ·exact did (c:=True) _ _ h rfl trivial
 ·rename_i a;obtain⟨a,rfl⟩:∃ m:Int,m=a:=⟨a,rfl⟩;obtain⟨c,hc,h⟩:=bind_some h;obtain⟨rfl,hi⟩:=rG hc;exact did (c:=inK .i64 (-a)) _ _ h rfl hi
 ·cases h
theorem Dq {i:Nat} {x:TSl} (h:vO i x k=some r):Did (ml i [x.un]) k r:=by
 unfold vO at h;split at h
 ·rename_i l;split at h
  ·rename_i c hc;refine did (c:=True) _ _ h ?_ trivial;simp only[TSl.un,ml,List.getElem?_map,hc]; rfl
  ·cases h
 ·cases h
end
end Go.Lad
