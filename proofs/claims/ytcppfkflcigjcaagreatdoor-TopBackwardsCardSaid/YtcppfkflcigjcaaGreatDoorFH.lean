import Derived.Test.YtcppfkflcigjcaaGreatDoorFG
set_option linter.unusedVariables false
set_option linter.unusedSimpArgs false
set_option linter.unusedSectionVars false
namespace Go.Lad
open Go.RowKit
theorem jR {a b:Nat}:Nat.ble a b=decide (a<=b):=by
 rw[Bool.eq_iff_iff,decide_eq_true_eq,Nat.ble_eq]
theorem eE {a b:Nat}:Nat.beq a b=decide (a=b):=by
 rw[Bool.eq_iff_iff,decide_eq_true_eq]; exact Nat.beq_eq ▸ Iff.rfl
theorem look_eq {α:Type}:∀ (l:List (Nat×α)) (k:Nat),look l k=ae l k
 | [],_=>rfl
 | x::r,k=>by
  unfold look ae;rw[eE,look_eq r k];by_cases h:k=x.1 <;> simp [h]
theorem bf {α:Type}:∀ (l m:List (Nat×α)) (k:Nat),ae (l++m) k=match ae l k with | some x=>some x | none=>ae m k
 | [],_,_=>rfl
 | x::r,m,k=>by
  rw[List.cons_append];have e:∀ l:List (Nat×α),ae (x::l) k=if k=x.1 then some x.2 else ae l k:=fun _=>rfl
  rw[e,e];by_cases h:k=x.1
  ·rw[if_pos h,if_pos h]
  ·rw[if_neg h,if_neg h]; exact bf r m k
theorem iP {α β:Type} (f:α->β):∀ (l:List (Nat×α)) (k:Nat),ae (l.map fun x=>(x.1,f x.2)) k=(ae l k).map f
 | [],_=>rfl
 | x::r,k=>by
  rw[List.map_cons];unfold ae;by_cases h:k=x.1
  ·simp [h]
  ·rw[if_neg h,if_neg h]; exact iP f r k
theorem rS {α:Type} (l m:List (Nat×α)) (k:Nat):rM l m k=ae (l++m) k:=by
 unfold rM;rw[look_eq,look_eq,bf];cases ae l k <;> rfl
theorem qK {α:Type}:∀ (l:List (Nat×α)) (k:Nat) (v:α) (j:Nat),ae (sX l k v) j=if j=k then some v else ae l j
 | [],k,v,j=>by simp [sX,ae]
 | x::r,k,v,j=>by
  unfold sX;rw[eE];by_cases h:k=x.1
  ·subst h;simp only[decide_true,cond_true];unfold ae;by_cases hj:j=x.1 <;> simp [hj]
  ·simp only[h,decide_false,cond_false];unfold ae;rw[qK r k v j];by_cases hj:j=x.1
   ·subst hj;have:¬ x.1=k:=fun e=>h e.symm;simp [this]
   ·simp [hj]
def lH (fx cur:TSt) (k:Nat):TSl:=(ae (cur.tm++fx.tm) k).getD .dead
theorem iL (fx cur:TSt) (k:Nat):(un2 fx cur).tm k=(lH fx cur k).un:=by
 show (ae (nU (cur.tm++fx.tm)) k).getD .dead=_;unfold nU lH;rw[iP TSl.un];cases ae (cur.tm++fx.tm) k <;> rfl
theorem kR (fx cur:TSt) (o:Nat):obT fx cur o=ae (cur.hp++fx.hp) o:=rS _ _ _
theorem gT (fx cur:TSt) (o:Nat):(un2 fx cur).hp o=(obT fx cur o).map bI.un:=by
 show ae (du (cur.hp++fx.hp)) o=_;unfold du;rw[iP bI.un,kR]
theorem rT {a b:Ty} {x:a.den} {y:b.den} (h:enc b y=enc a x):(TL.v b y).un=(TL.v a x).un:=by
 show (match enc b y with | [p]=>av.p p | _=>.dead)=(match enc a x with | [p]=>av.p p | _=>.dead);rw[h]
theorem Ni (x:TL):(M6 x).un=x.un:=by
 unfold M6;split
 ·exact rT (sB _ _)
 ·rfl
theorem PZ (x:TSl):(nrm x).un=x.un:=by
 unfold nrm;split
 ·rename_i y;show Slot.c (.v (M6 y).un) = .c (.v y.un);rw[Ni]
 ·rfl
theorem Nj (fx cur:TSt) (c:Value->TSl) (t:Nat):evT fx cur c (.tmp t)=nrm (lH fx cur t):=by
 show (match rM cur.tm fx.tm t with | some x=>nrm x | none=>.dead)=_;unfold lH;rw[rS];cases ae (cur.tm++fx.tm) t <;> rfl
theorem St.ext' {s t:St} (h1:∀ k,s.tm k=t.tm k) (h2:∀ o,s.hp o=t.hp o):s=t:=by
 cases s; cases t
 simp only[St.mk.injEq];exact⟨funext h1,funext h2⟩
theorem vq (v:Value):(sC v).un=ir v:=by
 unfold sC ir;split
 ·rename_i k n;dsimp only;by_cases h:k.min<=n/\n<=k.max
  ·rw[if_pos h]; simp only[h.1,h.2,decide_true,Bool.and_self,cond_true]; rfl
  ·rw[if_neg h];have:(decide (k.min<=n) && decide (n<=k.max))=false:=by rw[Bool.eq_false_iff]; simpa using h
   rw[this]; rfl
 ·rfl
 ·rename_i s;dsimp only;by_cases h:s.size<=9223372036854775807
  ·rw[if_pos h];have:Nat.ble s.size 9223372036854775807=true:=by rw[jR]; exact decide_eq_true h
   rw[this];show av.p (.str (mkS s.data.toList))=_;rw[Bl]
  ·rw[if_neg h];have:Nat.ble s.size 9223372036854775807=false:=by rw[jR]; exact decide_eq_false h
   rw[this]; rfl
 ·rfl
 ·rfl
 ·rfl
 ·rfl
 ·rfl
 ·split <;> first | rfl | simp_all
theorem yh (v:Value):(cq v).un=kX v:=by
 unfold cq kX;split
 ·rename_i cs;dsimp only;by_cases h:cs.all (·.oneCell')=true
  ·rw[if_pos h,h];simp only[cond_true,TSl.un,TC.un,List.map_map];rw[show List.map (TL.un ∘ sC) cs.toList=List.map ir cs.toList from List.map_congr_left fun v _=>vq v]
  ·rw[if_neg h];rw[Bool.not_eq_true] at h;rw[h]; rfl
 ·rfl
 ·rename_i h1 h2;have:=vq v;simp only[TSl.un,TC.un,this]
theorem fJ (fx cur:TSt) (x:Operand):(un2 fx cur).ev x=(evT fx cur cq x).un:=by
 cases x with
 | tmp t=>rw[Nj,PZ]; exact iL fx cur t
 | const v=>exact (yh v).symm
 | global g =>
  show (match zb g with | some cs=>Slot.c (.v (.ip cs 0)) | none=>.dead)=TSl.un (match Gi g with | some d=>.c (.v (.ip d.t d.x 0)) | none=>.dead);rw[M5];cases Gi g <;> rfl
 | func f=>rfl
theorem C8 {P:Program} {t:TypeId} {cs:List TL} (h:Gj P t=some cs):kN P t=some (cs.map TL.un):=by
 unfold Gj at h;unfold kN;split at h
 ·rename_i i hi;rw[hi];dsimp only;split at h
  ·rename_i v hv;rw[hv];dsimp only;by_cases hc:v.cells.all (·.oneCell')=true
   ·rw[hc] at h;simp only[cond_true,Option.some.injEq] at h;subst h;rw[if_pos hc,List.map_map];congr 1;exact List.map_congr_left fun v _=>(vq v).symm
   ·rw[Bool.not_eq_true] at hc;rw[hc] at h; cases h
  ·cases h
 ·cases h
theorem jJ:∀ (t:Ty) (x:t.den),(dF t x).map TL.un=(enc t x).map av.p
 | .any,_=>rfl
 | .int _,_=>rfl
 | .bool,_=>rfl
 | .str,_=>rfl
 | .sl _,_=>rfl
 | .map _ _,_=>rfl
 | .slu i,x=>(rfl:_=(enc (.sl (jI i)) (List.map (Uun i) x)).map av.p).trans (congrArg (List.map av.p) (sB i x))
 | .pair a b,x=>by unfold dF enc; rw[List.map_append,List.map_append,jJ a,jJ b]
theorem Fg (t:Ty) (x:t.den):(dF t x).length=t.cells:=by
 have:=congrArg List.length (jJ t x);rw[List.length_map,List.length_map,k6] at this;exact this
theorem gj {α:Type} {a b:Ty} {x:a.den} {k:b.den->Option α} {r:α} (h:lT a b x k=some r):∃ e:a=b,k (mZ e x)=some r:=by
 unfold lT at h;split at h
 ·rename_i g _; exact⟨g.down,h⟩
 ·cases h
def qL:Ty->Bool
 | .pair _ _=>false
 | _=>true
theorem rU {t:Ty} (h:qL t=true) (x:t.den):∃ p,enc t x=[p]/\(TL.v t x).un = .p p:=by
 cases t with
 | pair a b=>cases h
 | any=>exact⟨_,rfl,rfl⟩
 | int k=>exact⟨_,rfl,rfl⟩
 | bool=>exact⟨_,rfl,rfl⟩
 | str=>exact⟨_,rfl,rfl⟩
 | sl e=>exact⟨_,rfl,rfl⟩
 | map k e=>exact⟨_,rfl,rfl⟩
 | slu i=>exact⟨_,rfl,rfl⟩
theorem kS {ρ:Type} {t:Ty} {l:TL} {k:t.den->Option ρ} {r:ρ} (h:EZ t l k=some r):∃ x:t.den,l.un=(TL.v t x).un/\k x=some r:=by
 unfold EZ at h;split at h
 ·obtain⟨y,h,he⟩:=nh h;exact⟨y,(rT he).symm,h⟩
 ·cases h
theorem vr {ρ:Type} {r:ρ}:∀ (t:Ty) (ls:List TL) (k:t.den->List TL->Option ρ),CS t ls k=some r->∃ x rest,k x rest=some r/\∃ pre,ls=pre++rest/\pre.map TL.un=(enc t x).map av.p
 | .pair a b,ls,k,h=>by
  unfold CS at h;obtain⟨x,r1,h1,p1,rfl,e1⟩:=vr a ls _ h;obtain⟨y,r2,h2,p2,rfl,e2⟩:=vr b r1 _ h1;refine⟨(x,y),r2,h2,p1++p2,by rw[List.append_assoc],?_⟩;rw[List.map_append,e1,e2];show _=(enc a x++enc b y).map av.p;rw[List.map_append]
 | .int kd,[],k,h=>by cases h
 | .bool,[],k,h=>by cases h
 | .any,[],k,h=>by cases h
 | .any,l::ls,k,h=>by obtain⟨x,hu,h2⟩:=kS (t := .any) h; exact⟨x,ls,h2,[l],rfl,congrArg (fun u=>[u]) hu⟩
 | .str,[],k,h=>by cases h
 | .sl e,[],k,h=>by cases h
 | .map kd e,[],k,h=>by cases h
 | .int kd,l::ls,k,h=>by obtain⟨x,hu,h2⟩:=kS (t := .int kd) h; exact⟨x,ls,h2,[l],rfl,congrArg (fun u=>[u]) hu⟩
 | .bool,l::ls,k,h=>by obtain⟨x,hu,h2⟩:=kS (t := .bool) h; exact⟨x,ls,h2,[l],rfl,congrArg (fun u=>[u]) hu⟩
 | .str,l::ls,k,h=>by obtain⟨x,hu,h2⟩:=kS (t := .str) h; exact⟨x,ls,h2,[l],rfl,congrArg (fun u=>[u]) hu⟩
 | .sl e,l::ls,k,h=>by obtain⟨x,hu,h2⟩:=kS (t := .sl e) h; exact⟨x,ls,h2,[l],rfl,congrArg (fun u=>[u]) hu⟩
 | .slu i,[],k,h=>by cases h
 | .slu i,l::ls,k,h=>by obtain⟨x,hu,h2⟩:=kS (t := .slu i) h; exact⟨x,ls,h2,[l],rfl,congrArg (fun u=>[u]) hu⟩
 | .map kd e,l::ls,k,h=>by obtain⟨x,hu,h2⟩:=kS (t := .map kd e) h; exact⟨x,ls,h2,[l],rfl,congrArg (fun u=>[u]) hu⟩
theorem fZ {ρ:Type} {r:ρ} {t:Ty} {ls:List TL} {k:t.den->Option ρ} (h:k7 t ls k=some r):∃ x,k x=some r/\ls.map TL.un=(enc t x).map av.p:=by
 unfold k7 at h;obtain⟨x,rest,h2,pre,rfl,e⟩:=vr t ls _ h;split at h2
 ·exact⟨x,h2,by rw[List.append_nil]; exact e⟩
 ·cases h2
theorem Bw:∀ (l:List PV),ew (l.map av.p)=some l
 | []=>rfl
 | p::l=>by rw[List.map_cons]; unfold ew; rw[Bw l]; rfl
theorem lU (c:TC):c.un.leaves=c.leaves.map TL.un:=by cases c <;> rfl
theorem uj {cs:List TL} {off n:Nat} {agg:Bool} {c:TC} (h:E0 cs off n agg=some c):qm (cs.map TL.un) off n agg=some c.un:=by
 unfold E0 at h;unfold qm;cases agg with
 | true =>
  simp only[cond_true,if_true] at h ⊢;by_cases hb:off+n<=cs.length
  ·rw[show Nat.ble (off+n) cs.length=true by rw[jR]; exact decide_eq_true hb] at h;simp only[cond_true,Option.some.injEq] at h;subst h;rw[List.length_map,if_pos hb,List.map_drop.symm,List.map_take.symm]; rfl
  ·have:Nat.ble (off+n) cs.length=false:=by rw[jR]; exact decide_eq_false hb
   rw[this] at h; cases h
 | false =>
  simp only[cond_false,Bool.false_eq_true,if_false] at h ⊢;rw[List.getElem?_map];cases hc:cs[off]? with
  | none=>rw[hc] at h; cases h
  | some x=>rw[hc] at h; simp only[Option.map_some,Option.some.injEq] at h ⊢; subst h; rfl
theorem aq {α:Type} {b:Bool} {x:Option α} {r:α} (h:cond b x none=some r):b=true/\x=some r:=by
 cases b with
 | true=>exact⟨rfl,h⟩
 | false=>cases h
theorem ga {fx cur:TSt} {d:Nat} (h:lF fx cur d=true):aF (un2 fx cur).hp (some d)=true:=by
 unfold lF at h;show (((un2 fx cur).hp d).isNone && decide (d<1000000))=true;rw[gT];split at h
 ·cases h
 ·rename_i hn;rw[hn];rw[jR,decide_eq_true_eq] at h;simp; omega
end Go.Lad
namespace Go.Lad
open Go.RowKit
section
variable {ρ:Type} {P:Program} {H:List (Nat×Ty)} {fx cur:TSt} {k:KE ρ} {r:ρ}
def cU (fx cur:TSt) (x:TSl):Arg:=(x.un,x.un.ids.map (un2 fx cur).hp)
def Did (o:Option Eff) (k:KE ρ) (r:ρ):Prop := ∃ y wr c,k y wr=some r/\o=some ⟨c,y.un,du wr⟩/\c
theorem did {o:Option Eff} {c:Prop} (y:TSl) (wr:List (Nat×bI)) (h:k y wr=some r) (ho:o=some ⟨c,y.un,du wr⟩) (hc:c):Did o k r:=⟨y,wr,c,h,ho,hc⟩
theorem cL {o:Nat} {x:bI} (h:obT fx cur o=some x):(un2 fx cur).hp o=some x.un:=by rw[gT,h]; rfl
theorem Nk {b:BinOp} {x y:TSl} (h:Kg b x y k=some r):b = .add/\Did (uZ [x.un,y.un]) k r:=by
 unfold Kg at h;split at h
 ·exact⟨rfl,did _ [] h rfl trivial⟩
 ·cases h
theorem Gs {x:TSl} (h:OU x k=some r):Did (uT [x.un]) k r:=did x [] h rfl trivial
theorem KJ (c:Bool) (X Y:Slot):s9 [.c (.v (.p (.bool c))),X,Y]=val (bif c then X else Y):=by
 unfold s9;split
 ·rename_i c' x y heq;simp only[List.cons.injEq,Slot.c.injEq,Cmp.v.injEq,av.p.injEq,PV.bool.injEq,and_true] at heq;obtain⟨rfl,rfl,rfl⟩:=heq;cases c <;> rfl
 ·rename_i c' x y _ heq;simp only[List.cons.injEq,Slot.c.injEq,Cmp.v.injEq,av.p.injEq,PV.bool.injEq,and_true] at heq;obtain⟨rfl,rfl,rfl⟩:=heq;rfl
 ·rename_i h1 h2; exact absurd rfl (h2 c X Y)
theorem Nl {c x y:TSl} (h:Kd c x y k=some r):Did (s9 [c.un,x.un,y.un]) k r:=by
 unfold Kd at h;split at h
 ·rename_i c;obtain⟨c,rfl⟩:∃ m:Bool,m=c:=⟨c,rfl⟩;rw[show (TSl.c (.v (.v .bool c))).un=Slot.c (.v (.p (.bool c))) from rfl,KJ];split at h
  ·rename_i x y;exact did _ _ h (by cases c <;> rfl) trivial
  ·exact did _ _ h (by cases c <;> rfl) trivial
 ·cases h
theorem KK {t:TypeId} {d:Option Nat} (h:E2 P fx cur t d k=some r):Did (kJ P t d (aF (un2 fx cur).hp d) []) k r:=by
 unfold E2 at h;split at h
 ·rename_i d cs hz;obtain⟨h1,h2⟩:=aq h;refine did (c:=True) _ _ h2 ?_ trivial;unfold kJ;simp only[C8 hz,ga h1,if_true];rfl
 ·cases h
theorem KL {ps:List PV} {off n:Nat} {agg:Bool} {c:Cmp} (h:qm (ps.map av.p) off n agg=some c):(agg=true->off+n<=ps.length/\c = .g (((ps.drop off).take n).map .p))/\(agg=false->off<ps.length/\c = .v (.p (ps.getD off (.bool false)))):=by
 unfold qm at h;cases agg with
 | true =>
  refine⟨fun _=>?_,(fun h=>nomatch h)⟩;simp only[if_true,List.length_map] at h;split at h
  ·rename_i hl;injection h with h
   exact⟨hl,by rw[← h,List.map_take,List.map_drop]⟩
  ·cases h
 | false =>
  refine⟨(fun h=>nomatch h),fun _=>?_⟩;simp only[Bool.false_eq_true,if_false,List.getElem?_map] at h;cases hp:ps[off]? with
  | none=>rw[hp] at h; cases h
  | some p =>
   rw[hp] at h;injection h with h
   exact⟨(List.getElem?_eq_some_iff.1 hp).1,by rw[← h,List.getD_eq_getElem?_getD,hp]; rfl⟩
theorem wL {t:TypeId} {x:TSl} (h:Ke P fx cur t x k=some r):Did (mW P t [cU fx cur x]) k r:=by
 unfold Ke at h;split at h
 ·cases h
 ·rename_i n hn;split at h
  ·rename_i o off;split at h
   ·rename_i bt cs ho;split at h
    ·rename_i c hc;refine did (c:=True) _ _ h ?_ trivial;show mW P t [(.c (.v (.loc o off)),[(un2 fx cur).hp o])]=_;rw[cL ho];simp only[mW,bI.un,hn,uj hc];rfl
    ·cases h
   ·cases h
  ·rename_i t' x off;split at h
   ·rename_i c hc;have h1:=uj hc;rw[jJ] at h1;obtain⟨h2,h3⟩:=KL h1;show Did (mW P t [(.c (.v (.ip (enc t' x) off)),_)]) k r;simp only[mW,hn];cases hg:fv P t with
    | true =>
     obtain⟨h4,h5⟩:=h2 hg;exact did (c:=off+n<=(enc t' x).length) _ _ h (by rw[if_pos rfl,show (TSl.c c).un = .c c.un from rfl,h5]; rfl) h4
    | false =>
     obtain⟨h4,h5⟩:=h3 hg;exact did (c:=off<(enc t' x).length) _ _ h (by rw[if_neg (by simp),show (TSl.c c).un = .c c.un from rfl,h5]; rfl) h4
   ·cases h
  ·rename_i o i off z;split at h
   ·rename_i e t' l ho;obtain⟨hz,h⟩:=aq h;rw[eE,decide_eq_true_eq] at hz;obtain⟨x,hx,h⟩:=bind_some h;split at h
    ·rename_i c hc;have h1:=uj hc;rw[jJ] at h1;obtain⟨h2,h3⟩:=KL h1;obtain⟨i1,i2,i3⟩:=nS hx;have hg:=Bm (enc t') hx;show Did (mW P t [(.c (.v (.el o i.toNat off z)),[(un2 fx cur).hp o])]) k r;rw[cL ho];simp only[mW,bI.un,hn,hz,if_true];rw[hg];rw[k6] at h2 h3;cases ha:fv P t with
     | true =>
      obtain⟨h4,h5⟩:=h2 ha;exact did (c:=i.toNat<(l.map (enc t')).length/\off+n<=t'.cells) _ _ h (by rw[if_pos rfl,show (TSl.c c).un = .c c.un from rfl,h5]; rfl) ⟨by simpa using i2,h4⟩
     | false =>
      obtain⟨h4,h5⟩:=h3 ha;exact did (c:=i.toNat<(l.map (enc t')).length/\off<t'.cells) _ _ h (by rw[if_neg (by simp),show (TSl.c c).un = .c c.un from rfl,h5]; rfl) ⟨by simpa using i2,h4⟩
    ·cases h
   ·cases h
  ·cases h
def unP:av->PV
 | .p p=>p
 | _=>.bool false
theorem QQ {A B C:List av} {qs:List PV} (h:A++B++C=qs.map av.p):B=(B.map unP).map av.p:=by
 rw[List.map_map];have:∀ x∈B,(av.p ∘ unP) x=x:=fun x hx=>by
  have:x∈qs.map av.p:=by rw[← h]; simp [hx]
  obtain⟨p,_,rfl⟩:=List.mem_map.1 this;rfl
 conv=>lhs; rw[← List.map_id B]
 exact List.map_congr_left fun x hx=>(this x hx).symm
theorem QR {a b:List PV} (h:a.map av.p=b.map av.p):a=b:=by
 have:=congrArg (List.map unP) h
 simpa [List.map_map,Function.comp_def,unP] using this
theorem KM {t:TypeId} {x v:TSl} (h:E3 P fx cur t x v k=some r):Did (ox P t [cU fx cur x,cU fx cur v]) k r:=by
 unfold E3 at h;split at h
 ·rename_i n c hn;split at h
  ·rename_i o off;split at h
   ·rename_i bt cs ho;obtain⟨hc,h⟩:=aq h;rw[Bool.and_eq_true,eE,jR,decide_eq_true_eq,decide_eq_true_eq] at hc;refine did (c:=True) _ _ h ?_ trivial;show ox P t [(.c (.v (.loc o off)),[(un2 fx cur).hp o]),(.c c.un,_)]=_;rw[cL ho];simp only[ox,bI.un,hn,lU,List.length_map];rw[if_pos hc];simp only[du,List.map_cons,List.map_nil,bI.un,List.map_append,List.map_take,List.map_drop,TSl.un]
   ·cases h
  ·rename_i o i off z;split at h
   ·rename_i e t' l ho;obtain⟨hc,h⟩:=aq h;simp only[Bool.and_eq_true,eE,jR,decide_eq_true_eq] at hc;obtain⟨⟨hz,hl⟩,hoz⟩:=hc;obtain⟨x,hx,h⟩:=bind_some h;obtain⟨y,h,hp⟩:=fZ h;obtain⟨i1,i2,i3⟩:=nS hx;have hg:=Bm (enc t') hx;rw[List.map_append,List.map_append,List.map_take,List.map_drop,jJ] at hp;have hm:=QQ hp;have hps:ew c.un.leaves=some ((c.leaves.map TL.un).map unP):=by
     rw[lU];conv=>lhs; rw[hm]
     exact Bw _
    have hy:(enc t' x).take off++(c.leaves.map TL.un).map unP++(enc t' x).drop (off+n)=enc t' y:=by
     apply QR;rw[List.map_append,List.map_append,← hm,List.map_take,List.map_drop];exact hp
    refine did (c:=i.toNat<(l.map (enc t')).length/\off+n<=z) _ _ h ?_ ⟨by simpa using i2,hoz⟩;show ox P t [(.c (.v (.el o i.toNat off z)),[(un2 fx cur).hp o]),(.c c.un,_)]=_;rw[cL ho];simp only[ox,bI.un,hn,hps];rw[if_pos ⟨hz,by simpa using hl⟩,hg,hy];simp only[du,List.map_cons,List.map_nil,bI.un,List.map_set,TSl.un,hz]
   ·cases h
  ·cases h
 ·cases h
theorem P0 {x:TSl} (h:Py x k=some r):Did (Cb [x.un]) k r:=by
 unfold Py at h;split at h
 ·exact did _ _ h rfl trivial
 ·exact did _ _ h rfl trivial
 ·exact did _ _ h rfl trivial
 ·cases h
theorem Bx {t:TypeId} {f:Nat} {x:TSl} (h:tt P t f x k=some r):Did (jS P t f [x.un]) k r:=by
 unfold tt at h;split at h
 ·rename_i j a b hf;split at h
  ·exact did (c:=True) _ _ h (by simp only[TSl.un,TC.un,TL.un,jS,hf]; rfl) trivial
  ·exact did (c:=True) _ _ h (by simp only[TSl.un,TC.un,TL.un,jS,hf]; rfl) trivial
  ·exact did (c:=True) _ _ h (by simp only[TSl.un,TC.un,TL.un,jS,hf]; rfl) trivial
  ·cases h
 ·cases h
theorem KN {t:TypeId} {f:Nat} {x:TSl} (h:E4 P t f x k=some r):Did (sf P t f [x.un]) k r:=by
 unfold E4 at h;split at h
 ·rename_i j n agg xs hf;split at h
  ·rename_i c hc;exact did (c:=True) _ _ h (by simp only[TSl.un,TC.un,sf,hf,uj hc]; rfl) trivial
  ·cases h
 ·cases h
theorem C9 {a b n:Int} {m:Nat} {u:Unit} (h:Kf a b n m=some u):0<=a/\0<=n/\n<b-a/\b<=m:=kD h
theorem By {t:TypeId} {x i:TSl} (h:tu P fx cur t x i k=some r):Did (eX P t [cU fx cur x,cU fx cur i]) k r:=by
 unfold tu at h;split at h
 ·rename_i e z kd n he;obtain⟨n,rfl⟩:∃ m:Int,m=n:=⟨n,rfl⟩;split at h
  ·rename_i t' l;obtain⟨l,rfl⟩:∃ m:List t'.den,m=l:=⟨l,rfl⟩;obtain⟨hz,h⟩:=aq h;rw[eE,decide_eq_true_eq] at hz;obtain⟨x,hx,h⟩:=bind_some h;obtain⟨i1,i2,i3⟩:=nS hx;have hg:=Bm (enc t') hx;refine did (c:=0<=n/\n.toNat<(List.map (enc t') l).length/\((List.map (enc t') l).getD n.toNat []).length=z) _ _ h ?_ ⟨i1,by simpa using i2,by rw[hg,k6,hz]⟩;show eX P t [(.c (.v (.p (.sl (List.map (enc t') l)))),_),(.c (.v (.p (.int kd n))),_)]=_;simp only[eX,he,dQ];rw[hg]; rfl
  ·rename_i o;split at h
   ·rename_i e' t' l ho;obtain⟨hz,h⟩:=aq h;rw[eE,decide_eq_true_eq] at hz;obtain⟨x,hx,h⟩:=bind_some h;obtain⟨i1,i2,i3⟩:=nS hx;refine did (c:=0<=n/\n.toNat<(l.map (enc t')).length) _ _ h ?_ ⟨i1,by simpa using i2⟩;show eX P t [(.c (.v (.own o)),[(un2 fx cur).hp o]),(.c (.v (.p (.int kd n))),_)]=_;rw[cL ho];simp only[eX,bI.un,he,hz,if_true,dQ];rfl
   ·cases h
  ·rename_i o a b z2;split at h
   ·rename_i e' t' l ho;obtain⟨hz,h⟩:=aq h;rw[Bool.and_eq_true,eE,eE,decide_eq_true_eq,decide_eq_true_eq] at hz;obtain⟨u,hu,h⟩:=bind_some h;obtain⟨u1,u2,u3,u4⟩:=C9 hu;refine did (c:=0<=n/\n.toNat<b.toNat-a.toNat/\b.toNat<=(l.map (enc t')).length) _ _ h ?_ ⟨u2,by omega,by simp; omega⟩;show eX P t [(.c (.v (.sv o a.toNat b.toNat z2)),[(un2 fx cur).hp o]),(.c (.v (.p (.int kd n))),_)]=_;rw[cL ho];simp only[eX,bI.un,he];rw[if_pos ⟨hz.1,by rw[hz.2,hz.1]⟩];simp only[dQ,TSl.un,TC.un,TL.un,du,List.map_nil];have:(CU a n).toNat=a.toNat+n.toNat:=by unfold CU; omega
    rw[this]
   ·cases h
  ·cases h
 ·cases h
theorem Fh (t:Ty):wF t=qL t:=by cases t <;> rfl
theorem Da {t:Ty} (hl:qL t=true):∀ (ls:List TL) (k:List t.den->Option ρ),xU t ls k=some r->∃ l ps,k l=some r/\ew (ls.map TL.un)=some ps/\ps.length=l.length/\ls.length=l.length/\∀ (i:Nat) x,l[i]?=some x->∃ p,ps[i]?=some p/\(TL.v t x).un = .p p
 | [],k,h=>⟨[],[],h,rfl,rfl,rfl,fun i x hx=>by simp at hx⟩
 | .v t' x::ls,k,h=>by
  unfold xU at h;obtain⟨e,h⟩:=gj h;subst e;obtain⟨l,ps,h1,h2,h3,h4,h5⟩:=Da hl ls _ h;obtain⟨p,hp,hu⟩:=rU hl x;refine⟨_,p::ps,h1,?_,by simp [h3],by simp [h4],fun i y hy=>?_⟩
  ·rw[List.map_cons,hu];show (ew (ls.map TL.un)).map (p :: ·)=_;rw[h2]; rfl
  ·cases i with
   | zero =>
    have:x=y:=by simpa [mZ] using hy
    subst this;exact⟨p,rfl,hu⟩
   | succ i=>exact h5 i y (by simpa using hy)
 | .dead::_,k,h=>by cases h
 | .nil::_,k,h=>by cases h
 | .loc _ _::_,k,h=>by cases h
 | .own _::_,k,h=>by cases h
 | .el _ _ _ _::_,k,h=>by cases h
 | .ip _ _ _::_,k,h=>by cases h
 | .mp _::_,k,h=>by cases h
 | .fn _ _::_,k,h=>by cases h
 | .sv _ _ _ _::_,k,h=>by cases h
 | .ps _::_,k,h=>by cases h
 | .oth _::_,k,h=>by cases h
 | .nb _ _ _::_,k,h=>by cases h
theorem KO {t:TypeId} {x i:TSl} (h:E5 P t x i k=some r):Did (ov P t [x.un,i.un]) k r:=by
 unfold E5 at h;split at h
 ·rename_i s kd n hu;obtain⟨n,rfl⟩:∃ m:Int,m=n:=⟨n,rfl⟩;obtain⟨s,rfl⟩:∃ m:Bs,m=s:=⟨s,rfl⟩;obtain⟨c,hc,h⟩:=bind_some h;obtain⟨b1,b2,b3⟩:=J3 hc;refine did (c:=0<=n/\n.toNat<(mkS s).size) _ _ h ?_ ⟨b1,by rw[fw]; exact b2⟩;show ov P t [.c (.v (.p (.str (mkS s)))),.c (.v (.p (.int kd n)))]=_;simp only[ov,hu,iW];rw[b3]; rfl
 ·rename_i m e xs kd n hu;obtain⟨n,rfl⟩:∃ m:Int,m=n:=⟨n,rfl⟩;split at h
  ·rename_i t' x0 r0 hsz;obtain⟨hc,h⟩:=aq h;simp only[Bool.and_eq_true,eE,decide_eq_true_eq,Bool.not_eq_true'] at hc;obtain⟨⟨hm,hag⟩,hlf⟩:=hc;rw[Fh] at hlf;obtain⟨l,ps,h1,h2,h3,h4,h5⟩:=Da hlf _ _ h;obtain⟨y,hy,h1⟩:=bind_some h1;obtain⟨i1,i2,i3⟩:=nS hy;obtain⟨p,hp,hu2⟩:=h5 _ _ i3;refine did (c:=0<=n/\n.toNat<ps.length) _ _ h1 ?_ ⟨i1,by omega⟩;have e1:(tV t' y).un = .p p:=by
    show Slot.c (.v (TL.v t' y).un)=_;rw[hu2]
   rw[e1];show ov P t [.c (.g ((TL.v t' x0::r0).map TL.un)),.c (.v (.p (.int kd n)))]=_;simp only[ov,hu,hsz,h2];rw[if_pos ⟨by omega,hag⟩,List.getD_eq_getElem?_getD,hp];rfl
  ·cases h
 ·cases h
theorem uk {n m:Int} (h:z64 n=some m):n=m/\inK .i64 n:=by
 rw[E1] at h;obtain⟨h1,h2⟩:=J2 h;exact⟨h1,h2⟩
theorem Bz {k:IntKind} {n:Int} (h:inZ k n=true):inK k n:=by
 unfold inZ at h;rw[Bool.and_eq_true,gC,gC,decide_eq_true_eq,decide_eq_true_eq] at h;exact h
theorem Ik {k:IntKind} {a b m:Int} (h:Px k a b=some m):a.tdiv b=m/\b≠0/\inK k (a.tdiv b):=by
 unfold Px at h;obtain⟨h1,h2⟩:=aq h;rw[Bool.and_eq_true,km] at h1;injection h2 with h2
 exact⟨h2,by simpa using h1.1,Bz h1.2⟩
theorem Il {k:IntKind} {a b m:Int} (h:M7 k a b=some m):a.tmod b=m/\b≠0/\inK k (a.tmod b):=by
 unfold M7 at h;obtain⟨h1,h2⟩:=aq h;rw[Bool.and_eq_true,km] at h1;injection h2 with h2
 exact⟨h2,by simpa using h1.1,Bz h1.2⟩
theorem P1 {op:BinOp} {kd:IntKind} {a b:Int} (h:PA op kd a b k=some r):Did (mc op kd a b) k r:=by
 unfold PA at h;split at h
 ·split at h
  ·rename_i hk _;obtain⟨c,hc,h⟩:=bind_some h;obtain⟨rfl,hi⟩:=uk hc;refine did (c:=inK .i64 (a+b)) _ _ h ?_ hi;simp only[mc,hk.down,if_true]; rfl
  ·rename_i hk;refine did (c:=True) _ _ h ?_ trivial;have:kd ≠ .i64:=fun e=>by unfold IntKind.same at hk; rw[dif_pos e] at hk; cases hk
   simp only[mc,this,if_false]; rfl
 ·split at h
  ·rename_i hk _;obtain⟨c,hc,h⟩:=bind_some h;obtain⟨rfl,hi⟩:=uk hc;refine did (c:=inK .i64 (a-b)) _ _ h ?_ hi;simp only[mc,hk.down,if_true]; rfl
  ·rename_i hk;refine did (c:=True) _ _ h ?_ trivial;have:kd ≠ .i64:=fun e=>by unfold IntKind.same at hk; rw[dif_pos e] at hk; cases hk
   simp only[mc,this,if_false]; rfl
 ·split at h
  ·rename_i hk _;obtain⟨c,hc,h⟩:=bind_some h;obtain⟨rfl,hi⟩:=uk hc;refine did (c:=inK .i64 (a * b)) _ _ h ?_ hi;simp only[mc,hk.down,if_true]; rfl
  ·rename_i hk;refine did (c:=True) _ _ h ?_ trivial;have:kd ≠ .i64:=fun e=>by unfold IntKind.same at hk; rw[dif_pos e] at hk; cases hk
   simp only[mc,this,if_false]; rfl
 ·obtain⟨c,hc,h⟩:=bind_some h;obtain⟨rfl,h1⟩:=Ik hc;exact did (c:=b≠0/\inK kd (a.tdiv b)) _ _ h rfl h1
 ·obtain⟨c,hc,h⟩:=bind_some h;obtain⟨rfl,h1⟩:=Il hc;exact did (c:=b≠0/\inK kd (a.tmod b)) _ _ h rfl h1
 ·exact did (c:=True) _ _ h (by rw[km]; rfl) trivial
 ·exact did (c:=True) _ _ h (by rw[km]; rfl) trivial
 ·exact did (c:=True) _ _ h (by rw[bw]; rfl) trivial
 ·exact did (c:=True) _ _ h (by rw[gC]; rfl) trivial
 ·exact did (c:=True) _ _ h (by rw[bw]; rfl) trivial
 ·exact did (c:=True) _ _ h (by rw[gC]; rfl) trivial
 ·cases h
theorem Im {k:IntKind} {a n m:Int} (h:M8 k a n=some m):Cs k a n=m/\0<=n/\inK k (Cs k a n):=by
 unfold M8 at h;obtain⟨hc,h⟩:=aq h;rw[Bool.and_eq_true,gC,decide_eq_true_eq] at hc;injection h with h
 exact⟨h,hc.1,Bz hc.2⟩
theorem Io {k:IntKind} {a n m:Int} (h:Pz k a n=some m):MI k a n=m/\0<=n:=by
 unfold Pz at h;obtain⟨hc,h⟩:=aq h;rw[gC,decide_eq_true_eq] at hc;injection h with h
 exact⟨h,hc⟩
theorem QS {op:BinOp} {P:Program} {t:TypeId} {x y:TSl} (h:tSh op x y k=some r):mS P op t [x.un,y.un]=none/\rb P op t [x.un,y.un]=none/\Did (Ey op [x.un,y.un]) k r:=by
 unfold tSh at h;split at h
 ·rename_i kd a kd2 n;obtain⟨a,rfl⟩:∃ q:Int,q=a:=⟨a,rfl⟩;obtain⟨n,rfl⟩:∃ q:Int,q=n:=⟨n,rfl⟩;show mS P op t [.c (.v (.p (.int kd a))),.c (.v (.p (.int kd2 n)))]=none/\rb P op t [.c (.v (.p (.int kd a))),.c (.v (.p (.int kd2 n)))]=none/\Did (Ey op [.c (.v (.p (.int kd a))),.c (.v (.p (.int kd2 n)))]) k r;refine⟨?_,rfl,?_⟩
  ·show (if kd=kd2 then mc op kd a n else none)=none;split
   ·cases op <;> first | rfl | cases h
   ·rfl
  split at h
  ·obtain⟨c,hc,h⟩:=bind_some h;obtain⟨rfl,h1⟩:=Io hc;exact did (c:=0<=n) _ _ h rfl h1
  ·obtain⟨c,hc,h⟩:=bind_some h;obtain⟨rfl,h1⟩:=Im hc;exact did (c:=0<=n/\inK kd (Cs kd a n)) _ _ h rfl h1
  ·split at h
   ·rename_i hk _;exact did (c:=True) _ _ h (by show (if kd=kd2 then val (.p (.int kd (MG kd a n))) else none)=_; rw[if_pos hk.down]; rfl) trivial
   ·cases h
  ·split at h
   ·rename_i hk _;exact did (c:=True) _ _ h (by show (if kd=kd2 then val (.p (.int kd (orI kd a n))) else none)=_; rw[if_pos hk.down]; rfl) trivial
   ·cases h
  ·split at h
   ·rename_i hk _;exact did (c:=True) _ _ h (by show (if kd=kd2 then val (.p (.int kd (MH kd a n))) else none)=_; rw[if_pos hk.down]; rfl) trivial
   ·cases h
  ·split at h
   ·rename_i hk _;exact did (c:=True) _ _ h (by show (if kd=kd2 then val (.p (.int kd (anI kd a n))) else none)=_; rw[if_pos hk.down]; rfl) trivial
   ·cases h
  ·cases h
 ·cases h
theorem P2 {op:BinOp} {a b:Bs} (h:PB op a b k=some r):Did (mX op (mkS a) (mkS b)) k r:=by
 have hd:decide (mkS a=mkS b)=decide (a=b):=by rw[Bool.eq_iff_iff]; simp [Bk]
 unfold PB at h;split at h
 ·obtain⟨c,hc,h⟩:=bind_some h;obtain⟨rfl,h1⟩:=J4 hc;exact did (c:=(mkS a).size+(mkS b).size<=9223372036854775807) _ _ h (by simp only[mX,M1]; rfl) (by rw[fw,fw]; exact h1)
 ·exact did (c:=True) _ _ h (by simp only[mX]; rw[hd]; rfl) trivial
 ·exact did (c:=True) _ _ h (by simp only[mX]; rw[hd]; rfl) trivial
 ·exact did (c:=True) _ _ h (by simp only[mX,qH]; rfl) trivial
 ·exact did (c:=True) _ _ h (by simp only[mX,qH]; rw[hd]; rfl) trivial
 ·exact did (c:=True) _ _ h (by simp only[mX,qH]; rw[hd]; rfl) trivial
 ·exact did (c:=True) _ _ h (by simp only[mX,qH]; rfl) trivial
 ·cases h
theorem P3 {op:BinOp} {t:TypeId} {x y:TSl} (h:PC P op t x y k=some r):Did (mS P op t [x.un,y.un]) k r:=by
 unfold PC at h;split at h
 ·rename_i kd a kd' b;split at h
  ·rename_i hk _;have:=P1 h;show Did (if kd=kd' then mc op kd a b else none) k r;rw[if_pos hk.down]; exact this
  ·cases h
 ·exact P2 h
 ·rename_i a b;split at h
  ·rename_i hu; exact did (c:=True) _ _ h (by simp only[TSl.un,TC.un,TL.un,enc,mS,hu]; rfl) trivial
  ·rename_i hu; exact did (c:=True) _ _ h (by simp only[TSl.un,TC.un,TL.un,enc,mS,hu]; rfl) trivial
  ·cases h
 ·rename_i t' l;split at h
  ·rename_i hu; exact did (c:=True) _ _ h (by simp only[TSl.un,TC.un,TL.un,enc,mS,hu]; rfl) trivial
  ·rename_i hu; exact did (c:=True) _ _ h (by simp only[TSl.un,TC.un,TL.un,enc,mS,hu]; rfl) trivial
  ·cases h
 ·split at h
  ·rename_i hu; exact did (c:=True) _ _ h (by simp only[TSl.un,TC.un,TL.un,enc,mS,hu]; rfl) trivial
  ·rename_i hu; exact did (c:=True) _ _ h (by simp only[TSl.un,TC.un,TL.un,enc,mS,hu]; rfl) trivial
  ·cases h
 ·split at h
  ·rename_i hu; exact did (c:=True) _ _ h (by simp only[TSl.un,TC.un,TL.un,enc,mS,hu]; rfl) trivial
  ·rename_i hu; exact did (c:=True) _ _ h (by simp only[TSl.un,TC.un,TL.un,enc,mS,hu]; rfl) trivial
  ·cases h
 ·split at h
  ·rename_i hu; exact did (c:=True) _ _ h (by simp only[TSl.un,TC.un,TL.un,enc,mS,hu]; rfl) trivial
  ·rename_i hu; exact did (c:=True) _ _ h (by simp only[TSl.un,TC.un,TL.un,enc,mS,hu]; rfl) trivial
  ·cases h
 ·cases h
theorem QT {op:BinOp} {t:TypeId} {c:Bool} (h:tNI P op t c k=some r):Did (Ct P op t c [TSl.un (.c (.v (.oth .nilIface))),TSl.un (.c (.v (.oth .nilIface)))]) k r:=by
 unfold tNI at h;split at h
 ·rename_i hu; exact did (c:=True) _ _ h (by simp only[TSl.un,TC.un,TL.un,enc,Ct,hu]; rfl) trivial
 ·rename_i hu; exact did (c:=True) _ _ h (by simp only[TSl.un,TC.un,TL.un,enc,Ct,hu]; rfl) trivial
 ·cases h
theorem Nn {t:Ty} {x y:t.den} {b:Bool} (h:PE t x y=some b):∃ p q,(TL.v t x).un = .p p/\(TL.v t y).un = .p q/\Hw p q=some b:=by
 cases t with
 | int k =>
  obtain⟨x,rfl⟩:∃ m:Int,m=x:=⟨x,rfl⟩;obtain⟨y,rfl⟩:∃ m:Int,m=y:=⟨y,rfl⟩;have h:some (eqZ x y)=some b:=h;simp only[Option.some.injEq] at h;subst h;refine⟨.int k x,.int k y,rfl,rfl,?_⟩;unfold Hw;dsimp only;rw[if_pos rfl,km]
 | str =>
  obtain⟨x,rfl⟩:∃ m:Bs,m=x:=⟨x,rfl⟩;obtain⟨y,rfl⟩:∃ m:Bs,m=y:=⟨y,rfl⟩;have h:some (PD x y)=some b:=h;simp only[Option.some.injEq] at h;subst h;refine⟨.str (mkS x),.str (mkS y),rfl,rfl,?_⟩;unfold Hw PD;dsimp only;congr 1;rw[decide_eq_decide,Bk]
 | bool =>
  simp only[PE,Option.some.injEq] at h;subst h;exact⟨_,_,rfl,rfl,rfl⟩
 | any=>cases h
 | sl e=>cases h
 | map kd e=>cases h
 | slu i=>cases h
 | pair a b=>cases h
theorem Gt:∀ (xs ys:List TL) (b:Bool),k8 xs ys=some b->∃ ps qs,ew (xs.map TL.un)=some ps/\ew (ys.map TL.un)=some qs/\ml ps qs=some b
 | [],[],b,h=>by
  simp only[k8,Option.some.injEq] at h;subst h;exact⟨[],[],rfl,rfl,rfl⟩
 | .v t x::xs,.v t' y::ys,b,h=>by
  unfold k8 at h;split at h
  ·rename_i hs _;obtain⟨e⟩:=hs;subst e;split at h
   ·rename_i a ha;obtain⟨p,q,hp,hq,hpq⟩:=Nn ha;have hq:(TL.v t' y).un = .p q:=hq;have fin:∀ c,k8 xs ys=some c->∃ ps qs,ew ((TL.v t' x::xs).map TL.un)=some ps/\ew ((TL.v t' y::ys).map TL.un)=some qs/\ml ps qs=some (a && c):=fun c hc=>by
     obtain⟨ps,qs,h1,h2,h3⟩:=Gt xs ys c hc;refine⟨p::ps,q::qs,?_,?_,?_⟩
     ·rw[List.map_cons,hp]; show (ew (xs.map TL.un)).map (p :: ·)=_; rw[h1]; rfl
     ·rw[List.map_cons,hq]; show (ew (ys.map TL.un)).map (q :: ·)=_; rw[h2]; rfl
     ·unfold ml; rw[hpq,h3]
    split at h
    ·simp only[Option.some.injEq] at h;subst h;have:=fin true rfl
     rwa [Bool.and_true] at this
    ·split at h
     ·rename_i c hc;simp only[Option.some.injEq] at h;subst h;exact fin c hc
     ·cases h
   ·cases h
  ·cases h
 | [],_::_,b,h=>by unfold k8 at h; cases h
 | .v _ _::_,[],b,h=>by unfold k8 at h; cases h
 | .dead::_,_,b,h=>by unfold k8 at h; cases h
 | .nil::_,_,b,h=>by unfold k8 at h; cases h
 | .loc _ _::_,_,b,h=>by unfold k8 at h; cases h
 | .own _::_,_,b,h=>by unfold k8 at h; cases h
 | .el _ _ _ _::_,_,b,h=>by unfold k8 at h; cases h
 | .ip _ _ _::_,_,b,h=>by unfold k8 at h; cases h
 | .mp _::_,_,b,h=>by unfold k8 at h; cases h
 | .fn _ _::_,_,b,h=>by unfold k8 at h; cases h
 | .sv _ _ _ _::_,_,b,h=>by unfold k8 at h; cases h
 | .ps _::_,_,b,h=>by unfold k8 at h; cases h
 | .oth _::_,_,b,h=>by unfold k8 at h; cases h
 | .nb _ _ _::_,_,b,h=>by unfold k8 at h; cases h
 | .v _ _::_,.dead::_,b,h=>by unfold k8 at h; cases h
 | .v _ _::_,.nil::_,b,h=>by unfold k8 at h; cases h
 | .v _ _::_,.loc _ _::_,b,h=>by unfold k8 at h; cases h
 | .v _ _::_,.own _::_,b,h=>by unfold k8 at h; cases h
 | .v _ _::_,.el _ _ _ _::_,b,h=>by unfold k8 at h; cases h
 | .v _ _::_,.ip _ _ _::_,b,h=>by unfold k8 at h; cases h
 | .v _ _::_,.mp _::_,b,h=>by unfold k8 at h; cases h
 | .v _ _::_,.fn _ _::_,b,h=>by unfold k8 at h; cases h
 | .v _ _::_,.sv _ _ _ _::_,b,h=>by unfold k8 at h; cases h
 | .v _ _::_,.ps _::_,b,h=>by unfold k8 at h; cases h
 | .v _ _::_,.oth _::_,b,h=>by unfold k8 at h; cases h
 | .v _ _::_,.nb _ _ _::_,b,h=>by unfold k8 at h; cases h
theorem P4 {op:BinOp} {t:TypeId} {xs ys:List TL} (h:PF P op t xs ys k=some r):Did (rb P op t [TSl.un (.c (.g xs)),TSl.un (.c (.g ys))]) k r:=by
 unfold PF at h;split at h
 ·rename_i fs hst;obtain⟨ps0,hps,h⟩:=bind_some h;obtain⟨hc,h⟩:=aq h;rw[Bool.and_eq_true,Bool.and_eq_true] at hc;have key:∀ b,k8 xs ys=some b->∃ ps qs,ew (xs.map TL.un)=some ps/\ew (ys.map TL.un)=some qs/\ml ps qs=some b/\qu P 0 fs.toList ps=true:=fun b hb=>by
   obtain⟨ps,qs,h1,h2,h3⟩:=Gt xs ys b hb;rw[hps] at h1;injection h1 with h1
   subst h1;exact⟨ps0,qs,hps,h2,h3,hc.1.1⟩
  cases he:k8 xs ys with
  | none=>rw[he] at h; cases op <;> cases h
  | some b =>
   rw[he] at h;obtain⟨ps,qs,h1,h2,h3,h4⟩:=key _ he;cases op <;> first | (cases h; done) | skip
   ·refine did (c:=True) _ _ h ?_ trivial;show rb P .eql t [.c (.g (xs.map TL.un)),.c (.g (ys.map TL.un))]=_;simp only[rb,hst,h1,h2];rw[if_pos (by rw[h4,hc.1.2,hc.2]; rfl),h3];rfl
   ·refine did (c:=True) _ _ h ?_ trivial;show rb P .neq t [.c (.g (xs.map TL.un)),.c (.g (ys.map TL.un))]=_;simp only[rb,hst,h1,h2];rw[if_pos (by rw[h4,hc.1.2,hc.2]; rfl),h3];rfl
 ·cases h
theorem QU {op:UnOp} {x:TSl} (h:tUn op x k=some r):Did (Jf op [x.un]) k r:=by
 unfold tUn at h;split at h
 ·exact did (c:=True) _ _ h rfl trivial
 ·exact did (c:=True) _ _ h rfl trivial
 ·rename_i a;obtain⟨a,rfl⟩:∃ m:Int,m=a:=⟨a,rfl⟩;obtain⟨c,hc,h⟩:=bind_some h;obtain⟨rfl,hi⟩:=uk hc;exact did (c:=inK .i64 (-a)) _ _ h rfl hi
 ·cases h
theorem Fi {i:Nat} {x:TSl} (h:xV i x k=some r):Did (oK i [x.un]) k r:=by
 unfold xV at h;split at h
 ·rename_i l;split at h
  ·rename_i c hc;refine did (c:=True) _ _ h ?_ trivial;simp only[TSl.un,oK,List.getElem?_map,hc]; rfl
  ·cases h
 ·cases h
end
end Go.Lad
namespace Go.Lad
open Go.RowKit
section
variable {ρ:Type} {P:Program} {H:List (Nat×Ty)} {fx cur:TSt} {k:KE ρ} {r:ρ}
theorem oL {d:Ty} {x:TSl} {k:(t:Ty)->List t.den->Option ρ} (h:px fx cur d x k=some r):∃ t l,k t l=some r/\kF (cU fx cur x)=some (l.map (enc t)):=by
 unfold px at h;split at h
 ·rename_i t l;exact⟨t,l,h,rfl⟩
 ·exact⟨_,_,h,rfl⟩
 ·exact⟨_,_,h,rfl⟩
 ·rename_i o;split at h
  ·rename_i e t l ho;refine⟨_,_,h,?_⟩;show kF (.c (.v (.own o)),[(un2 fx cur).hp o])=_;rw[cL ho]; rfl
  ·cases h
 ·rename_i o a b z;split at h
  ·rename_i e t l ho;obtain⟨hz,h⟩:=aq h;rw[eE,decide_eq_true_eq] at hz;obtain⟨m,hm,h⟩:=bind_some h;obtain⟨c1,c2,c3,c4,c5⟩:=p7 hm;refine⟨_,_,h,?_⟩;show kF (.c (.v (.sv o a.toNat b.toNat z)),[(un2 fx cur).hp o])=_;rw[cL ho];show (if z=t.cells/\b.toNat<=(l.map (enc t)).length then some (((l.map (enc t)).take b.toNat).drop a.toNat) else none)=_;rw[if_pos ⟨hz,by simpa using c5⟩,← c1,List.map_drop,List.map_take]
  ·cases h
 ·cases h
theorem BA {a b:Ty} (e:Ty.sl a=Ty.sl b):a=b:=by injection e
theorem nj {α:Type} {a b:Ty} {x:List a.den} {k:List b.den->Option α} {r:α} (h:lT (.sl a) (.sl b) x k=some r):∃ e:a=b,k (e ▸ x)=some r:=by
 obtain⟨e,h⟩:=gj h;have e2:=BA e;subst e2;exact⟨rfl,h⟩
theorem nk (t:Ty) (l:List t.den):∀ x∈l.map (enc t),x.length=t.cells:=fun x hx=>by
 obtain⟨y,_,rfl⟩:=List.mem_map.1 hx;exact k6 t y
theorem Db:∀ l:List Int,bytesOf (l.map (enc (.int .u8)))=some (Ih l)
 | []=>rfl
 | n::l=>by
  show (match Bd (enc (.int .u8) n),bytesOf (l.map (enc (.int .u8))) with | some b,some m=>some (b::m) | _,_=>none)=_;rw[Db l]; rfl
theorem KP (s:Bs):((mkS s).data.toList.map fun b=>[PV.int .u8 (b.toNat:Int)])=(eQ s).map (enc (.int .u8)):=by
 rw[iW];induction s with
 | nil=>rfl
 | cons b s ih=>exact congrArg (List.cons [PV.int .u8 (b.toNat:Int)]) ih
theorem No {src dst:TypeId} {x:TSl} (h:Kh P fx cur src dst x k=some r):Did (orE (kG P src dst [x.un]) (nF P src dst [cU fx cur x])) k r:=by
 unfold Kh at h;split at h
 ·rename_i ks k' hs hd;split at h
  ·rename_i kd n;cases e1:IntKind.same k' .i64 with
   | some g1 =>
    cases e2:IntKind.same kd .u64 with
    | none =>
     rw[e1,e2] at h;have h4:kd ≠ .u64:=fun e=>by unfold IntKind.same at e2; rw[dif_pos e] at e2; cases e2
     refine did (c:=True) _ _ h ?_ trivial;show orE (kG P src dst [.c (.v (.p (.int kd n)))]) _=_;simp only[kG,hs,hd];rw[if_pos ⟨g1.down,h4⟩]; rfl
    | some g2 =>
     rw[e1,e2] at h;refine did (c:=True) _ _ h ?_ trivial;show orE (kG P src dst [.c (.v (.p (.int kd n)))]) _=_;simp only[kG,hs,hd];rw[if_neg (fun hh=>hh.2 g2.down)]; rfl
   | none =>
    have h4:k' ≠ .i64:=fun e=>by unfold IntKind.same at e1; rw[dif_pos e] at e1; cases e1
    have h:k (tV (.int k') (k'.wrap n)) []=some r:=by
     rw[e1] at h; exact h
    refine did (c:=True) _ _ h ?_ trivial;show orE (kG P src dst [.c (.v (.p (.int kd n)))]) _=_;simp only[kG,hs,hd];rw[if_neg (fun hh=>h4 hh.1)]; rfl
  ·cases h
 ·rename_i hs hd;split at h
  ·refine did (c:=True) _ _ h ?_ trivial;rename_i s;show orE (kG P src dst [.c (.v (.p (.str (mkS s))))]) _=_;simp only[kG,hs,hd]; rfl
  ·cases h
 ·rename_i es hs hd;split at h
  ·rename_i e he;split at h
   ·rename_i hu;obtain⟨t,l,h,hl⟩:=oL h;obtain⟨rfl,h⟩:=nj h;obtain⟨u,hu2,h⟩:=bind_some h;have hn:=kD hu2;refine did (c:=(Ih l).length<=9223372036854775807) _ _ h ?_ hn;have hb:nF P src dst [cU fx cur x]=some ⟨(Ih l).length<=9223372036854775807,.p (.str ⟨(Ih l).toArray⟩),[]⟩:=by
     unfold nF Ez;simp only[hs,hd];simp only[rG,he,hd,hl,hu];rw[Db l]
    have hc:kG P src dst [x.un]=none:=by
     unfold kG;split
     ·rw[hs]
     ·rw[hs]
     ·rfl
    rw[hc,hb]; rfl
   ·cases h
  ·cases h
 ·rename_i el hs hd;split at h
  ·rename_i hu;split at h
   ·rename_i s;refine did (c:=True) _ _ h ?_ trivial;show orE (kG P src dst [.c (.v (.p (.str (mkS s))))]) (nF P src dst [cU fx cur (.c (.v (.v .str s)))])=_;have hc:kG P src dst [.c (.v (.p (.str (mkS s))))]=none:=by simp only[kG,hs,hd]
    have hb:nF P src dst [cU fx cur (.c (.v (.v .str s)))]=some ⟨True,.p (.sl ((eQ s).map (enc (.int .u8)))),[]⟩:=by
     unfold nF Ez;simp only[hs,hd,hu];have e:=KP s;rw[← e]; rfl
    rw[hc,hb]; rfl
   ·cases h
  ·cases h
 ·cases h
theorem Gu:∀ (l:List (Nat×Nat×TC)) (cs out:List TL),CV cs l=some out->wY (cs.map TL.un) (l.map fun x=>(x.1,x.2.1,x.2.2.un))=some (out.map TL.un)
 | [],cs,out,h=>by
  simp only[CV,Option.some.injEq] at h;subst h; rfl
 | (off,n,c)::l,cs,out,h=>by
  unfold CV at h;obtain⟨hc,h⟩:=aq h;rw[Bool.and_eq_true,eE,jR,decide_eq_true_eq,decide_eq_true_eq] at hc;have ih:=Gu l _ _ h;rw[List.map_cons];unfold wY;dsimp only;rw[lU,List.length_map,List.length_map,if_pos hc]
  simpa [List.map_append,List.map_take,List.map_drop] using ih
theorem Dc {pl:List (Nat×Nat)}:∀ (is:List Nat) (args:List TSl) (l:List (Nat×Nat×TC)),xW pl is args=some l->ow (fun i=>pl[i]?) is (args.map TSl.un)=some (l.map fun x=>(x.1,x.2.1,x.2.2.un))
 | [],[],l,h=>by
  simp only[xW,Option.some.injEq] at h;subst h; rfl
 | i::is,.c c::args,l,h=>by
  unfold xW at h;split at h
  ·rename_i o n l' h1 h2;simp only[Option.some.injEq] at h;subst h;have ih:=Dc is args l' h2;show (match pl[i]?,ow (fun i=>pl[i]?) is (args.map TSl.un) with | some (o,n),some l=>some ((o,n,c.un)::l) | _,_=>none)=_;rw[h1,ih]; rfl
  ·cases h
 | [],_::_,l,h=>by cases h
 | _::_,[],l,h=>by cases h
 | i::is,.dead::args,l,h=>by cases h
 | i::is,.t _::args,l,h=>by cases h
theorem yi {t:TypeId} {is:List Nat} {args:List TSl} (h:E7 P t is args k=some r):Did (si P t is (args.map TSl.un)) k r:=by
 unfold E7 at h;split at h
 ·rename_i pl z hp hz;split at h
  ·rename_i l hl;split at h
   ·rename_i cs hc;refine did (c:=True) _ _ h ?_ trivial;simp only[si,hp,C8 hz,Dc _ _ _ hl,Gu _ _ _ hc];rfl
   ·cases h
  ·cases h
 ·cases h
theorem o7 {t:Ty} {l:TL} {k:t.den->Option ρ} (hlf:qL t=true) (h:Ki t l k=some r):∃ x,k x=some r/\∃ p,enc t x=[p]/\Cc l.un=some p:=by
 unfold Ki at h;split at h
 ·rename_i t' x;obtain⟨y,h,he⟩:=nh h;obtain⟨p,hp,hu⟩:=rU hlf y;refine⟨_,h,p,hp,?_⟩;show Cc (match enc t' x with | [p]=>.p p | _=>.dead)=some p;rw[← he,hp]; rfl
 ·obtain⟨y,h,he⟩:=vh h;exact⟨_,h,_,he,rfl⟩
 ·cases h
theorem jT {x:av} {r:List av} {p:PV} {l:List PV} (h:Cc x=some p) (hl:iv r=some l):iv (x::r)=some (p::l):=by
 unfold iv; rw[h,hl]
theorem yj:∀ {xs ys:List av} {ps qs:List PV},iv xs=some ps->iv ys=some qs->iv (xs++ys)=some (ps++qs)
 | [],ys,ps,qs,h,h'=>by simp only[iv,Option.some.injEq] at h; subst h; exact h'
 | x::xs,ys,ps,qs,h,h'=>by
  unfold iv at h;split at h
  ·rename_i p l hp hl;simp only[Option.some.injEq] at h;subst h;exact jT hp (yj hl h')
  ·cases h
theorem rV:∀ (t:Ty) (ls:List TL) (k:t.den->List TL->Option ρ),CW t ls k=some r->∃ x rest,k x rest=some r/\∃ pre,ls=pre++rest/\iv (pre.map TL.un)=some (enc t x)
 | .pair a b,ls,k,h=>by
  unfold CW at h;obtain⟨x,r1,h1,p1,rfl,e1⟩:=rV a ls _ h;obtain⟨y,r2,h2,p2,rfl,e2⟩:=rV b r1 _ h1;refine⟨(x,y),r2,h2,p1++p2,by rw[List.append_assoc],?_⟩;rw[List.map_append];exact yj e1 e2
 | .any,[],k,h=>by cases h
 | .int kd,[],k,h=>by cases h
 | .bool,[],k,h=>by cases h
 | .str,[],k,h=>by cases h
 | .sl e,[],k,h=>by cases h
 | .map kd e,[],k,h=>by cases h
 | .map kd e,l::ls,k,h=>by obtain⟨x,h2,p,e',hp⟩:=o7 (t := .map kd e) rfl h; exact⟨x,ls,h2,[l],rfl,by rw[e']; exact jT hp rfl⟩
 | .slu i,[],k,h=>by cases h
 | .slu i,l::ls,k,h=>by obtain⟨x,h2,p,e',hp⟩:=o7 (t := .slu i) rfl h; exact⟨x,ls,h2,[l],rfl,by rw[e']; exact jT hp rfl⟩
 | .any,l::ls,k,h=>by obtain⟨x,h2,p,e,hp⟩:=o7 (t := .any) rfl h; exact⟨x,ls,h2,[l],rfl,by rw[e]; exact jT hp rfl⟩
 | .int kd,l::ls,k,h=>by obtain⟨x,h2,p,e,hp⟩:=o7 (t := .int kd) rfl h; exact⟨x,ls,h2,[l],rfl,by rw[e]; exact jT hp rfl⟩
 | .bool,l::ls,k,h=>by obtain⟨x,h2,p,e,hp⟩:=o7 (t := .bool) rfl h; exact⟨x,ls,h2,[l],rfl,by rw[e]; exact jT hp rfl⟩
 | .str,l::ls,k,h=>by obtain⟨x,h2,p,e,hp⟩:=o7 (t := .str) rfl h; exact⟨x,ls,h2,[l],rfl,by rw[e]; exact jT hp rfl⟩
 | .sl e,l::ls,k,h=>by obtain⟨x,h2,p,e',hp⟩:=o7 (t := .sl e) rfl h; exact⟨x,ls,h2,[l],rfl,by rw[e']; exact jT hp rfl⟩
theorem Dd {te:Ty}:∀ (args:List TSl) (k:List te.den->Option ρ),xX te args k=some r->∃ l,k l=some r/\qv te.cells (args.map TSl.un)=some (l.map (enc te))
 | [],k,h=>⟨[],h,rfl⟩
 | .c c::args,k,h=>by
  unfold xX rN at h;obtain⟨x,rest,h1,pre,hp,e⟩:=rV te _ _ h;split at h1
  ·rw[List.append_nil] at hp;obtain⟨l,h2,ih⟩:=Dd args _ h1;refine⟨x::l,h2,?_⟩;show (match iv c.un.leaves,qv te.cells (args.map TSl.un) with | some ps,some l=>if ps.length=te.cells then some (ps::l) else none | _,_=>none)=_;rw[lU,hp,e,ih];dsimp only;rw[if_pos (k6 te x)]; rfl
  ·cases h1
 | .dead::_,k,h=>by cases h
 | .t _::_,k,h=>by cases h
theorem Gv {te:Ty}:∀ (args:List TSl) (k:List te.den->Option ρ),xX te args k=some r->∃ l,k l=some r/\rowsOf te.cells (args.map (cU fx cur))=some (l.map (enc te))
 | [],k,h=>⟨[],h,rfl⟩
 | .c c::args,k,h=>by
  unfold xX rN at h;obtain⟨x,rest,h1,pre,hp,e⟩:=rV te _ _ h;split at h1
  ·rw[List.append_nil] at hp;obtain⟨l,h2,ih⟩:=Gv args _ h1;refine⟨x::l,h2,?_⟩;show (match iv c.un.leaves,rowsOf te.cells (args.map (cU fx cur)) with | some ps,some l=>if ps.length=te.cells then some (ps::l) else none | _,_=>none)=_;rw[lU,hp,e,ih];dsimp only;rw[if_pos (k6 te x)]; rfl
  ·cases h1
 | .dead::_,k,h=>by cases h
 | .t _::_,k,h=>by cases h
theorem um:∀ (i:Nat) (is:List Nat),sD i is=true->is=List.range' i is.length
 | _,[],_=>rfl
 | i,x::is,h=>by
  unfold sD at h;rw[Bool.and_eq_true,eE,decide_eq_true_eq] at h;obtain⟨rfl,h⟩:=h;have:=um _ is h;rw[List.length_cons,List.range'_succ,← this]
theorem zm {t:TypeId} {len:Nat} {is:List Nat} {d:Option Nat} {args:List TSl} (h:rO P H fx cur t len is d args k=some r):Did (dx P t len is d (aF (un2 fx cur).hp d) (args.map (cU fx cur))) k r:=by
 unfold rO at h;split at h
 ·rename_i e z d te he hh;obtain⟨hc,h⟩:=aq h;simp only[Bool.and_eq_true,eE,jR,decide_eq_true_eq] at hc;obtain⟨⟨⟨⟨⟨h1,h2⟩,h3⟩,h4⟩,h5⟩,h6⟩:=hc;obtain⟨l,h,hl⟩:=Gv (fx:=fx) (cur:=cur) args _ h;refine did (c:=True) _ _ h ?_ trivial;have hr:is=List.range len:=by rw[um 0 is h1,h2,List.range_eq_range']
  simp only[dx,he];rw[if_pos ⟨hr,ga h3,h4,h5⟩,h6,hl]; rfl
 ·cases h
theorem Gw:∀ {args:List TSl} {cs:List TL},Kj args=some cs->qw (args.map TSl.un)=some (cs.map TL.un)
 | [],cs,h=>by
  simp only[Kj,Option.some.injEq] at h;subst h; rfl
 | x::args,cs,h=>by
  unfold Kj at h;split at h
  ·rename_i heq; cases heq
  ·rename_i y r heq;injection heq with h1 h2
   subst h1 h2;split at h
   ·rename_i l hl;simp only[Option.some.injEq] at h;subst h;show (match qw (args.map TSl.un) with | some l=>some (y.un::l) | none=>none)=_;rw[Gw hl]; rfl
   ·cases h
  ·cases h
theorem De {t:TypeId} {len:Nat} {is:List Nat} {d:Option Nat} {args:List TSl} (h:vi P fx cur t len is d args k=some r):Did (fN P t len is d (aF (un2 fx cur).hp d) (args.map TSl.un)) k r:=by
 unfold vi at h;split at h
 ·rename_i e z d cs he hl;obtain⟨hc,h⟩:=aq h;simp only[Bool.and_eq_true,eE,jR,decide_eq_true_eq] at hc;obtain⟨⟨⟨⟨h1,h2⟩,h3⟩,h4⟩,h5⟩:=hc;refine did (c:=True) _ _ h ?_ trivial;have hr:is=List.range len:=by rw[um 0 is h1,h2,List.range_eq_range']
  simp only[fN,he];rw[if_pos ⟨hr,ga h3,h4,h5⟩,Gw hl]; rfl
 ·cases h
theorem Fj {t:TypeId} {len:Nat} {is:List Nat} {d:Option Nat} {args:List TSl} (h:xY P H fx cur t len is d args k=some r):(dx P t len is d (aF (un2 fx cur).hp d) (args.map (cU fx cur))=none/\Did (fN P t len is d (aF (un2 fx cur).hp d) (args.map TSl.un)) k r)\/Did (dx P t len is d (aF (un2 fx cur).hp d) (args.map (cU fx cur))) k r:=by
 unfold xY at h;cases ho:args.any ownRow with
 | false=>rw[ho,cond_false] at h; exact .inr (zm h)
 | true =>
  rw[ho,cond_true] at h;refine .inl ⟨?_,De h⟩;unfold dx;split
  ·rename_i e z d he;split
   ·have:∀ {args:List TSl},args.any ownRow=true->rowsOf z (args.map (cU fx cur))=none:=by
     intro args;induction args with
     | nil=>intro h; cases h
     | cons x args ih =>
      intro h;rw[List.any_cons,Bool.or_eq_true] at h;rw[List.map_cons];rcases h with h | h
      ·unfold ownRow at h;split at h
       ·rename_i y;cases y <;> first | (cases h; done) | skip
        simp [rowsOf,cU,iv,Cc,TSl.un,TC.un,TL.un,Cmp.leaves]
       ·cases h
      ·have:=ih h;unfold rowsOf;split
       ·rename_i heq; cases heq
       ·rename_i heq;injection heq with h1 h2
        subst h2;rw[this];split <;> simp_all
       ·rfl
    rw[this ho]
   ·rfl
  ·rfl
theorem Ip {tl:Bool} {t:TypeId} {len:Nat} {is:List Nat} {args:List TSl} (h:Bq P H tl t len is args k=some r):Did (oU P tl t len is (args.map TSl.un)) k r:=by
 unfold Bq at h;split at h
 ·rename_i e z te he hh;obtain⟨hc,h⟩:=aq h;simp only[Bool.and_eq_true,eE,jR,decide_eq_true_eq] at hc;obtain⟨⟨⟨⟨h1,h2⟩,h4⟩,h5⟩,h6⟩:=hc;obtain⟨l,h,hl⟩:=Dd args _ h;refine did (c:=True) _ _ h ?_ trivial;have hr:is=List.range len:=by rw[um 0 is h1,h2,List.range_eq_range']
  simp only[oU,he];rw[if_pos ⟨hr,h4,h5⟩,h6,hl];cases tl <;> rfl
 ·cases h
theorem P5 {t:TypeId} {x:TSl} (h:PH P fx cur t x k=some r):Did (me P t [cU fx cur x]) k r:=by
 unfold PH at h;split at h
 ·rename_i kt et hu;split at h
  ·rename_i o;split at h
   ·rename_i kd agg te m ho;obtain⟨u,hn,h⟩:=bind_some h;have hn:=kD hn;refine did (c:=(oX id (enc te) m).length<=9223372036854775807) _ _ h ?_ (by rw[p9]; exact hn);show me P t [(.c (.v (.mp o)),[(un2 fx cur).hp o])]=_;rw[cL ho];simp only[me,bI.un,hu,p9]; rfl
   ·rename_i kd agg te m ho;obtain⟨u,hn,h⟩:=bind_some h;have hn:=kD hn;refine did (c:=(oX mkQ (enc te) m).length<=9223372036854775807) _ _ h ?_ (by rw[p9]; exact hn);show me P t [(.c (.v (.mp o)),[(un2 fx cur).hp o])]=_;rw[cL ho];simp only[me,bI.un,hu,p9]; rfl
   ·rename_i agg te m ho;obtain⟨u,hn,h⟩:=bind_some h;have hn:=kD hn;refine did (c:=(oX mkS (enc te) m).length<=9223372036854775807) _ _ h ?_ (by rw[p9]; exact hn);show me P t [(.c (.v (.mp o)),[(un2 fx cur).hp o])]=_;rw[cL ho];simp only[me,bI.un,hu,p9]; rfl
   ·cases h
  ·cases h
 ·rename_i hu;split at h
  ·rename_i s;refine did (c:=True) _ _ h ?_ trivial;show me P t [(.c (.v (.p (.str (mkS s)))),_)]=_;simp only[me,hu,fw]; rfl
  ·cases h
 ·rename_i e hu;obtain⟨t',l,h,hl⟩:=oL h;refine did (c:=True) _ _ h ?_ trivial;have:∀ a:Arg,kF a=some (l.map (enc t'))->me P t [a]=some ⟨True,.p (.int .i64 l.length),[]⟩:=by
   intro a ha;unfold me;split
   ·rename_i heq; simp only[List.cons.injEq,and_true] at heq; subst heq; simp [kF] at ha
   ·rename_i heq; simp only[List.cons.injEq,and_true] at heq; subst heq; simp [kF] at ha
   ·rename_i heq; simp only[List.cons.injEq,and_true] at heq; subst heq; simp [kF] at ha
   ·rename_i heq; simp only[List.cons.injEq,and_true] at heq; subst heq; simp [kF] at ha
   ·rename_i a' _ _ _ heq;simp only[List.cons.injEq,and_true] at heq;subst heq;rw[hu]; simp only[ha,List.length_map]; rfl
   ·rename_i hno; exact absurd rfl (hno a)
  exact this _ hl
 ·cases h
theorem Iq {t:TypeId} {d:Option Nat} {x y:TSl} (h:wG P H fx cur t d x y k=some r):Did (iw P t d (aF (un2 fx cur).hp d) [cU fx cur x,cU fx cur y]) k r:=by
 unfold wG at h;split at h
 ·rename_i e z d he;obtain⟨hf0,h0⟩:=aq h;clear h;have hf:=ga hf0;clear hf0;have h:=h0;clear h0;split at h
  ·rename_i o;split at h
   ·rename_i e' t' l ho;obtain⟨hc,h1⟩:=aq h;rw[Bool.and_eq_true,eE,eE,decide_eq_true_eq,decide_eq_true_eq] at hc;obtain⟨he2,hz⟩:=hc;subst he2;obtain⟨t2,m,h2,hm⟩:=oL h1;obtain⟨et,h3⟩:=nj h2;subst et;obtain⟨s,hs,h4⟩:=bind_some h3;obtain⟨hs1,hl⟩:=p8 hs;subst hs1;have h:=h4;refine did (c:=(l.map (enc t2)).length+(m.map (enc t2)).length<=2147483647/\∀ x∈m.map (enc t2),x.length=t2.cells) _ _ h ?_ ⟨by simpa using hl,nk _ _⟩;show iw P t (some d) _ [(.c (.v (.own o)),[(un2 fx cur).hp o]),cU fx cur y]=_;rw[cL ho];simp only[iw,bI.un,he,hm];rw[if_pos ⟨trivial,hz.symm,hf⟩];simp only[du,List.map_cons,List.map_nil,bI.un,TSl.un,TC.un,TL.un,List.map_append]
   ·cases h
  ·split at h
   ·rename_i te hh;obtain⟨hz,h⟩:=aq h;rw[eE,decide_eq_true_eq] at hz;obtain⟨t2,m,h2,hm⟩:=oL h;obtain⟨et,h3⟩:=nj h2;subst et;obtain⟨s,hs,h4⟩:=bind_some h3;obtain⟨hs1,hl⟩:=p8 hs;subst hs1;have h:=h4;refine did (c:=(m.map (enc t2)).length<=2147483647/\∀ x∈m.map (enc t2),x.length=z) _ _ h ?_ ⟨by simpa using hl,by rw[hz]; exact nk _ _⟩;show iw P t (some d) _ [(.c (.v .nil),[]),cU fx cur y]=_;simp only[iw,he,hm];rw[if_pos hf];simp only[du,List.map_cons,List.map_nil,bI.un,TSl.un,TC.un,TL.un,List.nil_append,hz]
   ·cases h
  ·cases h
 ·cases h
theorem uo {hl hh:Bool} {n:Nat}:∀ {as:List TSl} {q:Int×Int},xZ hl hh n as=some q->sT hl hh n (as.map (cU fx cur))=some q:=by
 intro as q h;unfold xZ at h;split at h <;> first | (cases h; done) | (simp only[Option.some.injEq] at h; subst h; rfl)
theorem KQ {t:TypeId} {hl hh:Bool} {x:TSl} {as:List TSl} (h:Br P fx cur t hl hh x as k=some r):Did (j0 P t hl hh (cU fx cur x::as.map (cU fx cur))) k r:=by
 unfold Br at h;split at h
 ·rename_i s;obtain⟨s,rfl⟩:∃ m:Bs,m=s:=⟨s,rfl⟩;split at h
  ·rename_i i j hu hb;obtain⟨m,hm,h⟩:=bind_some h;obtain⟨c1,c2,c3,c4,c5⟩:=p7 hm;refine did (c:=0<=i/\i<=j/\j<=(mkS s).size) _ _ h ?_ ⟨c2,c3,by rw[fw]; exact c4⟩;show j0 P t hl hh ((.c (.v (.p (.str (mkS s)))),_)::as.map (cU fx cur))=_;simp only[j0,hu];rw[fw,uo hb];simp only[dQ,CP,c1]; rfl
  ·cases h
 ·rename_i t' l;obtain⟨l,rfl⟩:∃ m:List t'.den,m=l:=⟨l,rfl⟩;split at h
  ·rename_i e z i j he hb;obtain⟨hz,h⟩:=aq h;rw[eE,decide_eq_true_eq] at hz;obtain⟨m,hm,h⟩:=bind_some h;obtain⟨c1,c2,c3,c4,c5⟩:=p7 hm;refine did (c:=0<=i/\i<=j/\j<=((l.map (enc t')).length:Int)/\∀ x∈l.map (enc t'),x.length=z) _ _ h ?_ ⟨c2,c3,by simpa using c4,by rw[hz]; exact nk _ _⟩;show j0 P t hl hh ((.c (.v (.p (.sl (l.map (enc t'))))),_)::as.map (cU fx cur))=_;simp only[j0,he];rw[show sT hl hh (l.map (enc t')).length (as.map (cU fx cur))=some (i,j) by rw[List.length_map]; exact uo hb];simp only[dQ,← c1,TSl.un,TC.un,TL.un,enc,List.map_drop,List.map_take]; rfl
  ·cases h
 ·split at h
  ·rename_i q i j he hb;obtain⟨u,hn,h⟩:=bind_some h;have hn:=kD hn;refine did (c:=i=0/\j=0) _ _ h ?_ hn;obtain⟨q1,q2⟩:=q;show j0 P t hl hh ((.c (.v .nil),_)::as.map (cU fx cur))=_;simp only[j0,he];rw[uo hb]; rfl
  ·cases h
 ·rename_i o;split at h
  ·rename_i e' t' l ho;split at h
   ·rename_i e z i j he hb;obtain⟨hz,h⟩:=aq h;rw[eE,decide_eq_true_eq] at hz;obtain⟨m,hm,h⟩:=bind_some h;obtain⟨c1,c2,c3,c4,c5⟩:=p7 hm;refine did (c:=0<=i/\i<=j/\j<=((l.map (enc t')).length:Int)) _ _ h ?_ ⟨c2,c3,by simpa using c4⟩;show j0 P t hl hh ((.c (.v (.own o)),[(un2 fx cur).hp o])::as.map (cU fx cur))=_;rw[cL ho];simp only[j0,bI.un,he];rw[show sT hl hh (l.map (enc t')).length (as.map (cU fx cur))=some (i,j) by rw[List.length_map]; exact uo hb];simp only[hz,if_true,dQ]; rfl
   ·cases h
  ·cases h
 ·cases h
theorem P6 {t:TypeId} {d:Option Nat} {x:TSl} (h:PI P fx cur t d x k=some r):Did (xn P t d (aF (un2 fx cur).hp d) [x.un]) k r:=by
 unfold PI at h;split at h
 ·rename_i d n c hn;obtain⟨hc,h⟩:=aq h;rw[Bool.and_eq_true,eE,decide_eq_true_eq] at hc;refine did (c:=True) _ _ h ?_ trivial;show xn P t (some d) _ [.c c.un]=_;simp only[xn,hn,lU,List.length_map];rw[if_pos ⟨ga hc.1,hc.2⟩]; rfl
 ·cases h
theorem Ad {mx:Bool} {x y:TSl} (h:wH mx x y k=some r):Did (nO mx [x.un,y.un]) k r:=by
 unfold wH at h;split at h
 ·rename_i kd a kd' b;split at h
  ·rename_i hk _;refine did (c:=True) _ _ h ?_ trivial;show (if kd=kd' then val (.p (.int kd (if mx then max a b else min a b))) else none)=_;rw[if_pos hk.down];cases mx <;> rfl
  ·cases h
 ·cases h
theorem yk {mx:Bool} {x y z:TSl} (h:ui mx x y z k=some r):Did (nO mx [x.un,y.un,z.un]) k r:=by
 unfold ui at h;split at h
 ·rename_i kd a kd' b kd2 c;split at h
  ·rename_i hk hk2 _ _;refine did (c:=True) _ _ h ?_ trivial;show (if kd=kd'/\kd=kd2 then val (.p (.int kd (if mx then max (max a b) c else min (min a b) c))) else none)=_;rw[if_pos ⟨hk.down,hk2.down⟩];cases mx <;> rfl
  ·cases h
 ·cases h
theorem lI:∀ (t:Ty) (x:t.den),t.gw=true->∀ p∈enc t x,p.flat=true
 | .any,x,_,p,hp=>by simp only[enc,List.mem_singleton] at hp; subst hp; rfl
 | .int _,x,_,p,hp=>by simp only[enc,List.mem_singleton] at hp; subst hp; rfl
 | .bool,x,_,p,hp=>by simp only[enc,List.mem_singleton] at hp; subst hp; rfl
 | .str,x,_,p,hp=>by simp only[enc,List.mem_singleton] at hp; subst hp; rfl
 | .sl _,x,h,_,_=>by cases h
 | .pair a b,x,h,p,hp=>by
  unfold Ty.gw at h;rw[Bool.and_eq_true] at h;unfold enc at hp;rcases List.mem_append.1 hp with hp | hp
  ·exact lI a _ h.1 p hp
  ·exact lI b _ h.2 p hp
theorem sG {c:TC} {te:Ty} {y:te.den} (hp:c.leaves.map TL.un=(enc te y).map av.p):mf c.un=some (c.isAgg,enc te y):=by
 cases c with
 | v l =>
  simp only[TC.leaves,List.map_cons,List.map_nil] at hp;cases he:enc te y with
  | nil=>rw[he] at hp; cases hp
  | cons p ps =>
   rw[he,List.map_cons] at hp;injection hp with h1 h2
   have:ps=[]:=by cases ps with | nil=>rfl | cons _ _=>cases h2
   subst this;simp only[TC.un,h1]; rfl
 | g ls =>
  simp only[TC.leaves] at hp;show ((ew (ls.map TL.un)).map fun ps=>(true,ps))=_;rw[hp,Bw]; rfl
theorem o8 {et:TypeId} {agg:Bool} {zl:List TL} {te:Ty} {z:te.den} (h:nG P et=some (agg,zl)) (hp:zl.map TL.un=(enc te z).map av.p) (hf:te.gw=true):pJ P et=some (agg,enc te z):=by
 unfold nG at h;unfold pJ;split at h
 ·rename_i i hi;rw[hi];dsimp only;split at h
  ·rename_i v hv;rw[hv];dsimp only;split at h
   ·rename_i c hc;simp only[Option.some.injEq,Prod.mk.injEq] at h;obtain⟨h1,rfl⟩:=h;rw[← yh,hc];show (match mf c.un with | some (agg,ps)=>if ps.all PV.flat then some (agg,ps) else none | none=>none)=_;rw[sG hp];dsimp only;rw[if_pos (List.all_eq_true.2 (lI te z hf))];have:c.isAgg=agg:=by rw[← h1]; cases c <;> rfl
    rw[this]
   ·cases h
  ·cases h
 ·cases h
theorem Ae:∀ (xs:List av) (ps:List PV),iv xs=some ps->ew (xs.map av.pq)=some ps
 | [],ps,h=>h
 | x::xs,ps,h=>by
  unfold iv at h;split at h
  ·rename_i p qs hp hq;injection h with h
   subst h;have e:x.pq = .p p:=by
    unfold Cc at hp;split at hp
    ·injection hp with hp; subst hp; rfl
    ·injection hp with hp; subst hp; rfl
    ·cases hp
   rw[List.map_cons,e];unfold ew;rw[Ae xs qs hq]; rfl
  ·cases h
theorem rW {t:Ty} {ls:List TL} {k:t.den->Option ρ} (h:rN t ls k=some r):∃ x,k x=some r/\iv (ls.map TL.un)=some (enc t x):=by
 unfold rN at h;obtain⟨x,rest,h2,pre,rfl,e⟩:=rV t ls _ h;split at h2
 ·exact⟨x,h2,by rw[List.append_nil]; exact e⟩
 ·cases h2
theorem Fk {c:TC} {te:Ty} {y:te.den} (hp:iv (c.leaves.map TL.un)=some (enc te y)):mf c.un.pq=some (c.isAgg,enc te y):=by
 have h:=Ae _ _ hp;cases c with
 | v l =>
  simp only[TC.leaves,List.map_cons,List.map_nil] at h;show mf (.v l.un.pq)=_;cases hl:l.un.pq with
  | p p =>
   rw[hl] at h;have h:some [p]=some (enc te y):=h;injection h with h
   rw[← h]; rfl
  | _=>rw[hl] at h; cases h
 | g ls =>
  simp only[TC.leaves] at h;show ((ew ((ls.map TL.un).map av.pq)).map fun ps=>(true,ps))=_;rw[h]; rfl
theorem yl {et:TypeId} {agg:Bool} {zl:List TL} {te:Ty} {z:te.den} (h:nG P et=some (agg,zl)) (hp:iv (zl.map TL.un)=some (enc te z)):qn P et=some (agg,enc te z):=by
 unfold nG at h;unfold qn;split at h
 ·rename_i i hi;rw[hi];dsimp only;split at h
  ·rename_i v hv;rw[hv];dsimp only;split at h
   ·rename_i c hc;simp only[Option.some.injEq,Prod.mk.injEq] at h;obtain⟨h1,rfl⟩:=h;rw[← yh,hc];show mf c.un.pq=_;rw[Fk hp];have:c.isAgg=agg:=by rw[← h1]; cases c <;> rfl
    rw[this]
   ·cases h
  ·cases h
 ·cases h
theorem Fl {t:TypeId} {d:Option Nat} (h:x6 P H fx cur t d k=some r):Did (kB P t d (aF (un2 fx cur).hp d) []) k r:=by
 unfold x6 at h;split at h
 ·rename_i kt et d te hu hh;split at h
  ·rename_i kd agg z hk hz;obtain⟨hc,h⟩:=aq h;rw[Bool.and_eq_true] at hc;obtain⟨x,h,hp⟩:=fZ h;refine did (c:=True) _ _ h ?_ trivial;simp only[kB,hu,hk,o8 hz hp hc.2];rw[if_pos (ga hc.1)]; rfl
  ·rename_i agg z hk hz;obtain⟨hc,h⟩:=aq h;obtain⟨x,h,hp⟩:=rW h;refine did (c:=True) _ _ h ?_ trivial;simp only[kB,hu,hk,yl hz hp];rw[if_pos (ga hc)]; rfl
  ·rename_i fs agg z hk hz;split at h
   ·rename_i kd hq;obtain⟨hc,h⟩:=aq h;rw[Bool.and_eq_true] at hc;obtain⟨x,h,hp⟩:=fZ h;refine did (c:=True) _ _ h ?_ trivial;simp only[kB,hu,hk,o8 hz hp hc.2,hq];rw[if_pos (ga hc.1)]; rfl
   ·cases h
  ·cases h
 ·cases h
theorem Gx (agg:Bool) (te:Ty) (y:te.den):(PJ agg (dF te y)).un=ru agg (enc te y):=by
 have:=jJ te y;cases agg with
 | true=>show Cmp.g ((dF te y).map TL.un) = .g _; rw[this]
 | false =>
  show Cmp.v (TL.un (match dF te y with | x::_=>x | []=>.dead)) = .v (.p ((enc te y).headD (.bool false)));cases hl:dF te y with
  | nil =>
   have h1:=Fg te y;rw[hl] at h1;have h2:∀ t:Ty,0<t.cells:=fun t=>by induction t <;> simp [Ty.cells] <;> omega
   have:=h2 te;simp at h1; omega
  | cons l ls =>
   rw[hl,List.map_cons] at this;cases he:enc te y with
   | nil=>rw[he] at this; cases this
   | cons p ps =>
    rw[he,List.map_cons] at this;injection this with h1 h2
    dsimp only;rw[h1]; rfl
theorem uq {ok agg:Bool} {te:Ty} {q:Option te.den} {z:te.den} (h:vj ok agg te q z k=some r):Did (val (mg ok agg (q.map (enc te)) (enc te z))) k r:=by
 have hg:(q.map (enc te)).getD (enc te z)=enc te (q.getD z):=by cases q <;> rfl
 have hs:(q.map (enc te)).isSome=q.isSome:=by cases q <;> rfl
 unfold vj at h;cases ok with
 | true =>
  refine did (c:=True) _ _ h ?_ trivial;simp only[mg,if_true,val,hg,hs,TSl.un,List.map_cons,List.map_nil,Gx]; rfl
 | false =>
  refine did (c:=True) _ _ h ?_ trivial;simp only[mg,Bool.false_eq_true,if_false,val,hg,hs,TSl.un,Gx]; rfl
theorem Ir {t:TypeId} {ok:Bool} {m x:TSl} (h:Bt P fx cur t ok m x k=some r):Did (iy P t ok [cU fx cur m,cU fx cur x]) k r:=by
 unfold Bt at h;split at h
 ·rename_i kt et o hu;split at h
  ·rename_i kd agg2 z hk hz;split at h
   ·rename_i kd2 agg te m kd3 n ho;obtain⟨n,rfl⟩:∃ q:Int,q=n:=⟨n,rfl⟩;split at h
    ·split at h
     ·rename_i kd h1 h2 _ _;obtain⟨ha,h7⟩:=aq h;obtain⟨z0,h8,hp⟩:=fZ h7;rw[Bool.and_eq_true,beq_iff_eq] at ha;obtain⟨ha,hf⟩:=ha;have hq:=uq h8;have e1:=h1.down;have e2:=h2.down;subst e1 e2 ha;rw[← QJ] at hq;show Did (iy P t ok [(.c (.v (.mp o)),[(un2 fx cur).hp o]),(.c (.v (.p (.int _ n))),_)]) k r;rw[cL ho];simp only[iy,bI.un,hu,hk,o8 hz hp hf];rw[if_pos (by simp)];exact hq
     ·cases h
    ·cases h
   ·rename_i agg te m s ho;obtain⟨s,rfl⟩:∃ q:Bs,q=s:=⟨s,rfl⟩;split at h
    ·obtain⟨ha,h⟩:=aq h;obtain⟨z0,h,hp⟩:=rW h;rw[beq_iff_eq] at ha;have hq:=uq h;subst ha;rw[← QI] at hq;show Did (iy P t ok [(.c (.v (.mp o)),[(un2 fx cur).hp o]),(.c (.v (.p (.str (mkS s)))),_)]) k r;rw[cL ho];simp only[iy,bI.un,hu,hk,yl hz hp];rw[if_pos (by simp)];exact hq
    ·cases h
   ·rename_i kd2 agg te m s0 kd3 n kd4 n4 kd5 n5 s ho;obtain⟨n,rfl⟩:∃ q:Int,q=n:=⟨n,rfl⟩;obtain⟨s,rfl⟩:∃ q:Bs,q=s:=⟨s,rfl⟩;obtain⟨n4,rfl⟩:∃ q:Int,q=n4:=⟨n4,rfl⟩;obtain⟨n5,rfl⟩:∃ q:Int,q=n5:=⟨n5,rfl⟩;obtain⟨s0,rfl⟩:∃ q:Bs,q=s0:=⟨s0,rfl⟩;split at h
    ·rename_i kd hq0;split at h
     ·rename_i h1 h2 h3 h4 _ _ _ _;obtain⟨ha,h7⟩:=aq h;obtain⟨z0,h8,hp⟩:=fZ h7;rw[Bool.and_eq_true,beq_iff_eq] at ha;obtain⟨ha,hf⟩:=ha;have hq:=uq h8;have e1:=h1.down;have e2:=h2.down;have e3:=h3.down;have e4:=h4.down;subst e1 e2 e3 e4 ha;rw[← QK] at hq;show Did (iy P t ok [(.c (.v (.mp o)),[(un2 fx cur).hp o]),(.c (.g [.p (.str (mkS s0)),.p (.int _ n),.p (.int _ n4),.p (.int _ n5),.p (.str (mkS s))]),_)]) k r;rw[cL ho];simp only[iy,bI.un,hu,hq0,o8 hz hp hf];rw[if_pos (by simp)];exact hq
     ·cases h
    ·cases h
   ·cases h
  ·cases h
 ·cases h
theorem KR {t:TypeId} {ok:Bool} {m x:TSl} (hm:m = .c (.v (.oth (.map none)))) (h:E8 P H t ok x k=some r):Did (iy P t ok [cU fx cur m,cU fx cur x]) k r:=by
 subst hm;unfold E8 at h;split at h
 ·rename_i kt et te hu hh;split at h
  ·rename_i agg z hk hz;split at h
   ·rename_i s;obtain⟨s,rfl⟩:∃ q:Bs,q=s:=⟨s,rfl⟩;obtain⟨z0,h,hp⟩:=rW h;have hq:=uq h;show Did (iy P t ok [(.c (.v (.p (.oth (.map none)))),_),(.c (.v (.p (.str (mkS s)))),_)]) k r;simp only[iy,hu,hk,yl hz hp];exact hq
   ·cases h
  ·cases h
 ·cases h
theorem ur {t:TypeId} {m x v:TSl} (h:qI P fx cur t m x v k=some r):Did (gr P t [cU fx cur m,cU fx cur x,cU fx cur v]) k r:=by
 unfold qI at h;split at h
 ·rename_i kt et o c hu;split at h
  ·rename_i kd hk;split at h
   ·rename_i kd2 agg te m kd3 n ho;obtain⟨n,rfl⟩:∃ q:Int,q=n:=⟨n,rfl⟩;split at h
    ·split at h
     ·rename_i kd h1 h2 _ _;obtain⟨ha,h⟩:=aq h;obtain⟨y,h,hp⟩:=fZ h;rw[Bool.and_eq_true,beq_iff_eq] at ha;obtain⟨ha,hf⟩:=ha;have e1:=h1.down;have e2:=h2.down;subst e1 e2 ha;refine did (c := ∀ p∈enc te y,p.flat=true) _ _ h ?_ (lI te y hf);show gr P t [(.c (.v (.mp o)),[(un2 fx cur).hp o]),(.c (.v (.p (.int _ n))),_),(.c c.un,_)]=_;rw[cL ho];simp only[gr,bI.un,hu,hk,sG hp];rw[if_pos (by simp),Rm]; rfl
     ·cases h
    ·cases h
   ·rename_i agg te m s ho;obtain⟨s,rfl⟩:∃ q:Bs,q=s:=⟨s,rfl⟩;split at h
    ·obtain⟨ha,h⟩:=aq h;obtain⟨y,h,hp⟩:=fZ h;rw[beq_iff_eq] at ha;subst ha;refine did (c:=True) _ _ h ?_ trivial;show gr P t [(.c (.v (.mp o)),[(un2 fx cur).hp o]),(.c (.v (.p (.str (mkS s)))),_),(.c c.un,_)]=_;rw[cL ho];simp only[gr,bI.un,hu,hk,sG hp];rw[if_pos (by simp),Rl]; rfl
    ·cases h
   ·rename_i kd2 agg te m s0 kd3 n kd4 n4 kd5 n5 s ho;obtain⟨n,rfl⟩:∃ q:Int,q=n:=⟨n,rfl⟩;obtain⟨s,rfl⟩:∃ q:Bs,q=s:=⟨s,rfl⟩;obtain⟨n4,rfl⟩:∃ q:Int,q=n4:=⟨n4,rfl⟩;obtain⟨n5,rfl⟩:∃ q:Int,q=n5:=⟨n5,rfl⟩;obtain⟨s0,rfl⟩:∃ q:Bs,q=s0:=⟨s0,rfl⟩;split at h
    ·rename_i kd hq0;split at h
     ·rename_i h1 h2 h3 h4 _ _ _ _;obtain⟨ha,h⟩:=aq h;obtain⟨y,h,hp⟩:=fZ h;rw[Bool.and_eq_true,beq_iff_eq] at ha;obtain⟨ha,hf⟩:=ha;have e1:=h1.down;have e2:=h2.down;have e3:=h3.down;have e4:=h4.down;subst e1 e2 e3 e4 ha;refine did (c := ∀ p∈enc te y,p.flat=true) _ _ h ?_ (lI te y hf);show gr P t [(.c (.v (.mp o)),[(un2 fx cur).hp o]),(.c (.g [.p (.str (mkS s0)),.p (.int _ n),.p (.int _ n4),.p (.int _ n5),.p (.str (mkS s))]),_),(.c c.un,_)]=_;rw[cL ho];simp only[gr,bI.un,hu,hq0,sG hp];rw[if_pos (by simp),show (mkS s0,n,n4,n5,mkS s)=mkQ (s0,n,n4,n5,s) from rfl,Rn]; rfl
     ·cases h
    ·cases h
   ·cases h
  ·cases h
 ·cases h
theorem Df {n m:Int} {u:Unit} (h:pN n m=some u):0<=n/\n=m/\n<=4294967296:=kD h
theorem BB {t:TypeId} {d:Option Nat} {x y:TSl} (h:tw P H fx cur t d x y k=some r):Did (kP P t d (aF (un2 fx cur).hp d) [x.un,y.un]) k r:=by
 unfold tw at h;split at h
 ·rename_i e z d te he hh;split at h
  ·rename_i q zl kd n kd2 m hz;obtain⟨n,rfl⟩:∃ q:Int,q=n:=⟨n,rfl⟩;obtain⟨m,rfl⟩:∃ q:Int,q=m:=⟨m,rfl⟩;obtain⟨hc,h⟩:=aq h;simp only[Bool.and_eq_true,eE,decide_eq_true_eq] at hc;obtain⟨⟨h1,h2⟩,h3⟩:=hc;obtain⟨z0,h,hp⟩:=fZ h;obtain⟨u,hu,h⟩:=bind_some h;refine did (c:=0<=n/\n=m/\n<=4294967296) _ _ h ?_ (Df hu);show kP P t (some d) _ [.c (.v (.p (.int _ n))),.c (.v (.p (.int _ m)))]=_;simp only[kP,he,o8 hz hp h2];rw[if_pos ⟨ga h1,by rw[k6,h3]⟩];simp only[du,List.map_cons,List.map_nil,bI.un,TSl.un,TC.un,TL.un,ri,List.map_replicate,h3]
  ·cases h
 ·cases h
theorem Np {t t':TypeId} {d:Option Nat} {x y:TSl} (h:Ks P H fx cur t t' d x y k=some r):Did (mo P t t' d (aF (un2 fx cur).hp d) [cU fx cur x,cU fx cur y]) k r:=by
 unfold Ks at h;split at h
 ·rename_i e z d te he hh;split at h
  ·rename_i k2 q zl kd n hu hz;obtain⟨n,rfl⟩:∃ q:Int,q=n:=⟨n,rfl⟩;obtain⟨hc,h⟩:=aq h;simp only[Bool.and_eq_true,eE,decide_eq_true_eq] at hc;obtain⟨⟨h1,h2⟩,h3⟩:=hc;obtain⟨z0,h,hp⟩:=fZ h;obtain⟨u,hu2,h⟩:=bind_some h;refine did (c:=1<=n/\n<=2147483647) _ _ h ?_ (kD hu2);show mo P t t' (some d) _ [(.c (.v .nil),_),(.c (.v (.p (.int _ n))),_)]=_;simp only[mo,he,hu,o8 hz hp h2];rw[if_pos ⟨ga h1,by rw[k6,h3]⟩];simp only[du,List.map_cons,List.map_nil,bI.un,TSl.un,TC.un,TL.un,ri,List.map_replicate,h3]
  ·cases h
 ·cases h
theorem Nq {t t':TypeId} {d:Option Nat} {x:TSl} {s:Bs} (h:Kt P fx cur t t' d x s k=some r):Did (mr P t t' d (aF (un2 fx cur).hp d) [cU fx cur x,cU fx cur (.c (.v (.v .str s)))]) k r:=by
 unfold Kt at h;split at h
 ·rename_i e z' d hu he;obtain⟨hc,h0⟩:=aq h;clear h;rw[Bool.and_eq_true,eE,decide_eq_true_eq] at hc;obtain⟨hz,hf0⟩:=hc;have hf:=ga hf0;clear hf0;have h:=h0;clear h0;have hb:(eQ s).map (enc (.int .u8))=nD (mkS s):=(KP s).symm;have hbl:List.length (α:=Int) (eQ s)=(mkS s).size:=by rw[← vS,← hb]; exact (List.length_map (as:=eQ s) (enc (.int .u8))).symm
  split at h
  ·rename_i ob;split at h
   ·rename_i e' l ho;obtain⟨l,rfl⟩:∃ q:List Int,q=l:=⟨l,rfl⟩;obtain⟨hc,h⟩:=aq h;rw[eE,decide_eq_true_eq] at hc;subst hc;obtain⟨m,hm,h⟩:=bind_some h;obtain⟨hm1,hl⟩:=p8 hm;subst hm1;have hl2:(List.map (enc (.int .u8)) l).length+(mkS s).size<=2147483647:=by
     rw[← hbl,show (List.map (enc (.int .u8)) l).length=List.length (α:=Int) l from List.length_map (as:=l) (enc (.int .u8))];exact hl
    refine did (c:=(List.map (enc (.int .u8)) l).length+(mkS s).size<=2147483647) _ _ h ?_ hl2;show mr P t t' (some d) _ [(.c (.v (.own ob)),[(un2 fx cur).hp ob]),(.c (.v (.p (.str (mkS s)))),_)]=_;rw[cL ho];simp only[mr,bI.un,he,hu];rw[if_pos ⟨trivial,rfl,hz,hf⟩];have e1:List.map (enc (.int .u8)) l++nD (mkS s)=List.map (enc (.int .u8)) (l++eQ s):=by rw[← hb]; exact (List.map_append (f:=enc (.int .u8)) (l₁:=l) (l₂:=eQ s)).symm
    rw[e1];rfl
   ·cases h
  ·obtain⟨m,hm,h⟩:=bind_some h;obtain⟨hm1,hl⟩:=p8 hm;subst hm1;refine did (c:=(mkS s).size<=2147483647) _ _ h ?_ (by rw[← hbl]; simpa using hl);show mr P t t' (some d) _ [(.c (.v .nil),_),(.c (.v (.p (.str (mkS s)))),_)]=_;simp only[mr,he,hu];rw[if_pos ⟨hz,hf⟩];rw[← hb];rfl
  ·cases h
 ·cases h
theorem Nr {t t':TypeId} {d:Option Nat} {x y:TSl} (h:Ku P H fx cur t t' d x y k=some r):Did (oV P t t' d (aF (un2 fx cur).hp d) [cU fx cur x,cU fx cur y]) k r:=by
 unfold Ku at h;split at h
 ·rename_i s;obtain⟨y,wr,c,h1,h2,h3⟩:=Nq h;refine⟨y,wr,c,h1,?_,h3⟩;unfold oV;have hn:mo P t t' d (aF (un2 fx cur).hp d) [cU fx cur x,cU fx cur (.c (.v (.v .str s)))]=none:=by
   show mo P t t' d _ [(x.un,_),(.c (.v (.p (.str (mkS s)))),_)]=none;unfold mo;split
   ·rename_i heq; simp at heq
   ·rfl
  rw[hn];exact h2
 ·obtain⟨y,wr,c,h1,h2,h3⟩:=Np h;refine⟨y,wr,c,h1,?_,h3⟩;unfold oV;rw[h2]
theorem P7 {t:TypeId} {x:TSl} (h:PM P t x k=some r):Did (vW P t [x.un]) k r:=by
 unfold PM at h;split at h
 ·rename_i e hu;refine did (c:=True) _ _ h ?_ trivial;show vW P t [.c (.v .nil)]=_;simp only[vW,hu]; rfl
 ·cases h
theorem BC:∀ (xs:List TSl) (l:List Nat),Ab xs=some l->qt (xs.map TSl.un)=some l
 | [],l,h=>by
  simp only[Ab,Option.some.injEq] at h;subst h; rfl
 | x::xs,l,h=>by
  unfold Ab at h;split at h
  ·rename_i heq; cases heq
  ·rename_i o r heq;injection heq with h1 h2
   subst h1 h2;split at h
   ·rename_i l' hl;simp only[Option.some.injEq] at h;subst h;have ih:=BC _ l' hl;show (qt (List.map TSl.un xs)).map (o :: ·)=_;rw[ih]; rfl
   ·cases h
  ·cases h
theorem Dg {f:FuncId} {first:Nat} {xs:List TSl} (h:vk f first (Ab xs) k=some r):Did (lQ (.func f) first (xs.map TSl.un)) k r:=by
 unfold vk at h;split at h
 ·rename_i l hl;split at h
  ·refine did (c:=True) _ _ h ?_ trivial;unfold lQ;rw[BC _ _ hl]; rfl
  ·obtain⟨hc,h⟩:=aq h;rw[eE,decide_eq_true_eq] at hc;refine did (c:=True) _ _ h ?_ trivial;unfold lQ;rw[BC _ _ hl];dsimp only;rw[if_pos hc]; rfl
 ·cases h
theorem Fm {a n:Int} {m:Nat} {u:Unit} (h:fL a n m=some u):0<=a/\0<=n/\n<m:=by
 unfold fL at h;obtain⟨hc,_⟩:=aq h;rw[Bool.and_eq_true,Bool.and_eq_true,bw,gC,gC,decide_eq_true_eq,decide_eq_true_eq,decide_eq_true_eq] at hc;exact⟨hc.1.1,hc.1.2,hc.2⟩
theorem Ns {m:Nat} {e t:TypeId} {x i:TSl} (hu:P.underlying t=some (.array m e)) (h:Kl P fx cur m e x i k=some r):Did (pL P t [cU fx cur x,cU fx cur i]) k r:=by
 unfold Kl at h;split at h
 ·rename_i o a kd n z hs;obtain⟨n,rfl⟩:∃ q:Int,q=n:=⟨n,rfl⟩;obtain⟨h2,h0⟩:=aq h;clear h;rw[jR,decide_eq_true_eq] at h2;split at h0
  ·rename_i e' t' l ho;obtain⟨hz,h⟩:=aq h0;rw[eE,decide_eq_true_eq] at hz;obtain⟨u,hv,h⟩:=bind_some h;obtain⟨y,hy,h⟩:=bind_some h;obtain⟨c1,c2,_⟩:=nS hy;obtain⟨a1,a2,a3⟩:=Fm hv;have hmul:(0:Int)<=n * (z:Int):=Int.mul_nonneg a2 (Int.natCast_nonneg z);have hsum:(CU a (Kk n z)).toNat=a.toNat+n.toNat * z:=by
    unfold CU Kk;have h3:((n.toNat:Nat):Int)=n:=Int.toNat_of_nonneg a2;have h4:((a.toNat:Nat):Int)=a:=Int.toNat_of_nonneg a1;have h5:a+n * (z:Int)=((a.toNat+n.toNat * z:Nat):Int):=by rw[Int.natCast_add,Int.natCast_mul,h3,h4]
    rw[h5]; rfl
   refine did (c:=0<=n/\n<m/\a.toNat+n.toNat * z<(l.map (enc t')).length) _ _ h ?_ ⟨a2,a3,by rw[← hsum]; simpa using c2⟩;show pL P t [(.c (.v (.el o a.toNat 0 1)),[(un2 fx cur).hp o]),(.c (.v (.p (.int _ n))),_)]=_;rw[cL ho];simp only[bI.un,hz];simp only[pL,hu,hs];rw[if_pos h2];show _=some (⟨_,.c (.v (.el o (CU a (Kk n z)).toNat 0 1)),[]⟩:Eff);rw[hsum]; rfl
  ·cases h0
 ·cases h
theorem KS {t:TypeId} {m x:TSl} (h:Bu P t m x k=some r):Did (pr P t [m.un,x.un]) k r:=by
 unfold Bu at h;split at h
 ·rename_i kd e m kd3 n;obtain⟨n,rfl⟩:∃ q:Int,q=n:=⟨n,rfl⟩;obtain⟨m,rfl⟩:∃ q:List (Int×List e.den),q=m:=⟨m,rfl⟩;split at h
  ·rename_i kt et hu;split at h
   ·rename_i kd2 hk;split at h
    ·rename_i e1 e2 _ _;obtain⟨hz,h⟩:=aq h;have e1:=e1.down;have e2:=e2.down;subst e1 e2;refine did (c:=True) _ _ h ?_ trivial;show pr P t [.c (.v (.p (.mp kd3 (wy (List.map (enc e)) m)))),.c (.v (.p (.int kd3 n)))]=some ⟨True,.c (.v (.p (.sl (((bG m n).getD []).map (enc e))))),[]⟩;simp only[pr,hu,hk,hz,z6];rw[if_pos ⟨trivial,trivial⟩];cases bG m n <;> rfl
    ·cases h
   ·cases h
  ·cases h
 ·cases h
theorem Fo {h:Option Int} {n:Int} {u:Unit} (hh:Ko h n=some u):h=none\/h=some n:=by
 unfold Ko at hh;split at hh
 ·exact .inl rfl
 ·exact .inr (by rw[kD hh])
theorem Nt {t:TypeId} {o:Nat} {x v:TSl} (h:Kp P fx cur t o x v k=some r):Did (th P t [cU fx cur (.c (.v (.mp o))),cU fx cur x,cU fx cur v]) k r:=by
 unfold Kp at h;split at h
 ·rename_i kd e te m hh kd3 n d ho;obtain⟨n,rfl⟩:∃ q:Int,q=n:=⟨n,rfl⟩;split at h
  ·rename_i kt et hu;split at h
   ·rename_i kd2 hk;split at h
    ·rename_i e1 e2 _ _;have e1:=e1.down;have e2:=e2.down;subst e1 e2;split at h
     ·rename_i e' t' l hd;obtain⟨hc,h⟩:=aq h;rw[eE,decide_eq_true_eq] at hc;obtain⟨et,h⟩:=nj h;subst et;obtain⟨u,hn,h⟩:=bind_some h;refine did (c:=hh=none\/hh=some n) _ _ h ?_ (Fo hn);show th P t [(.c (.v (.mp o)),[(un2 fx cur).hp o]),(.c (.v (.p (.int _ n))),_),(.c (.v (.own d)),[(un2 fx cur).hp d])]=_;rw[cL ho,cL hd];simp only[bI.un,th,hu,hk];rw[if_pos ⟨trivial,trivial,hc,trivial⟩];simp only[du,List.map_cons,List.map_nil,bI.un,TSl.un];rw[Kc (List.map (enc t')) m n l]
     ·cases h
    ·cases h
   ·cases h
  ·cases h
 ·cases h
theorem KT {t:TypeId} {x:TSl} (h:E9 P fx cur t x k=some r):Did (pv P t [cU fx cur x]) k r:=by
 unfold E9 at h;split at h
 ·rename_i e2 z2 o a b z he;split at h
  ·rename_i e t' l q zl ho hz;obtain⟨hc,h⟩:=aq h;rw[Bool.and_eq_true,Bool.and_eq_true,eE,eE,decide_eq_true_eq,decide_eq_true_eq] at hc;obtain⟨⟨h1,h2⟩,h3⟩:=hc;obtain⟨z0,h,hp⟩:=fZ h;obtain⟨u,hu,h⟩:=bind_some h;have hu:=kD hu;refine did (c:=a.toNat<=b.toNat/\b.toNat<=(l.map (enc t')).length) _ _ h ?_ (by simpa using hu);show pv P t [(.c (.v (.sv o a.toNat b.toNat z)),[(un2 fx cur).hp o])]=_;rw[cL ho];simp only[bI.un,pv,he,o8 hz hp h3];rw[if_pos ⟨h1,h2,k6 t' z0⟩];simp only[du,List.map_cons,List.map_nil,bI.un,TSl.un,M9,List.map_append,List.map_take,List.map_drop,List.map_replicate]
  ·cases h
 ·cases h
theorem qM (s:Bs):(eQ s).length=s.length:=List.length_map ..
theorem Nu {t:TypeId} {x y:TSl} (h:Kq P fx cur t x y k=some r):Did (pM P t [cU fx cur x,cU fx cur y]) k r:=by
 unfold Kq at h;split at h
 ·rename_i e z o he;split at h
  ·rename_i e' t' l ho;obtain⟨hc,h1⟩:=aq h;rw[Bool.and_eq_true,eE,eE,decide_eq_true_eq,decide_eq_true_eq] at hc;obtain⟨he2,hz⟩:=hc;subst he2;obtain⟨t2,m,h2,hm⟩:=oL h1;obtain⟨et,h3⟩:=nj h2;subst et;obtain⟨s,hs,h4⟩:=bind_some h3;obtain⟨hs1,hl⟩:=p8 hs;subst hs1;refine did (c:=(l.map (enc t2)).length+(m.map (enc t2)).length<=2147483647/\∀ x∈m.map (enc t2),x.length=t2.cells) _ _ h4 ?_ ⟨by simpa using hl,nk _ _⟩;show pM P t [(.c (.v (.own o)),[(un2 fx cur).hp o]),cU fx cur y]=_;rw[cL ho];simp only[pM,bI.un,he,hm];rw[if_pos ⟨trivial,hz.symm⟩];simp only[du,List.map_cons,List.map_nil,bI.un];rw[← List.map_append]; rfl
  ·cases h
 ·cases h
theorem Is {α:Type} {l m r:List α} (h:appT? l m=some r):l≠[]/\m≠[]/\app? l m=some r:=by
 unfold appT? at h;split at h
 ·exact⟨by simp,by simp,h⟩
 ·cases h
theorem Nv {t:TypeId} {d:Option Nat} {t':Ty} {l:List t'.den} {y:TSl} (h:z7 P H fx cur t d (.c (.v (.tl t' l))) y k=some r):Did (n7 P t d (aF (un2 fx cur).hp d) [cU fx cur (.c (.v (.tl t' l))),cU fx cur y]) k r:=by
 unfold z7 at h;dsimp only at h;split at h
 ·rename_i e z d he;obtain⟨hc,h⟩:=aq h;rw[Bool.and_eq_true,eE,decide_eq_true_eq] at hc;obtain⟨hf,hz⟩:=hc;obtain⟨t2,m,h2,hm⟩:=oL h;obtain⟨et,h3⟩:=nj h2;subst et;obtain⟨s,hs,h4⟩:=bind_some h3;obtain⟨a1,a2,a3⟩:=Is hs;obtain⟨hs1,hl⟩:=p8 a3;subst hs1;refine did (c:=(l.map (enc t2)).length+(m.map (enc t2)).length<=2147483647/\l.map (enc t2)≠[]/\m.map (enc t2)≠[]/\(∀ x∈l.map (enc t2),x.length=z)/\∀ x∈m.map (enc t2),x.length=z) _ _ h4 ?_ ⟨by simpa using hl,by simpa using a1,by simpa using a2,by rw[hz]; exact nk _ _,by rw[hz]; exact nk _ _⟩;show n7 P t (some d) _ [(.c (.v (.tl (l.map (enc t2)))),_),cU fx cur y]=_;simp only[n7,he,hm];rw[if_pos (ga hf)];simp only[du,List.map_cons,List.map_nil,bI.un,TSl.un,TC.un,TL.un,List.map_append,hz]
 ·cases h
theorem Fp {t:TypeId} {d:Option Nat} {x y:TSl} (h:z7 P H fx cur t d x y k=some r):(∃ t' l,x = .c (.v (.tl t' l)))\/wG P H fx cur t d x y k=some r:=by
 unfold z7 at h;split at h
 ·exact .inl ⟨_,_,rfl⟩
 ·exact .inr h
theorem Nw {b:BinOp} {t:TypeId} {x y:TSl} (h:Kw P fx cur b t x y k=some r):OV b=true/\Did (qx P b t [cU fx cur x,cU fx cur y]) k r:=by
 unfold Kw at h;split at h
 ·rename_i o;split at h
  ·rename_i e0 t' l ho;split at h
   ·rename_i hu;refine⟨rfl,did (c:=True) _ _ h ?_ trivial⟩;show qx P .eql t [(.c (.v (.own o)),[(un2 fx cur).hp o]),(.c (.v .nil),[])]=_;rw[cL ho];simp only[qx,bI.un,hu]; rfl
   ·rename_i hu;refine⟨rfl,did (c:=True) _ _ h ?_ trivial⟩;show qx P .neq t [(.c (.v (.own o)),[(un2 fx cur).hp o]),(.c (.v .nil),[])]=_;rw[cL ho];simp only[qx,bI.un,hu]; rfl
   ·cases h
  ·cases h
 ·cases h
theorem Nx {t:TypeId} {d:Option Nat} {m x:TSl} (h:Kv P fx cur t d m x k=some r):Did (tj P t d (aF (un2 fx cur).hp d) [cU fx cur m,cU fx cur x]) k r:=by
 unfold Kv at h;split at h
 ·rename_i o kd3 n;obtain⟨n,rfl⟩:∃ q:Int,q=n:=⟨n,rfl⟩;split at h
  ·rename_i kd e te m ho;split at h
   ·rename_i kt et d hu;split at h
    ·rename_i kd2 hk;split at h
     ·rename_i e1 e2 _ _;have e1:=e1.down;have e2:=e2.down;subst e1 e2;obtain⟨hc,h⟩:=aq h;rw[Bool.and_eq_true] at hc;refine did (c:=True) _ _ h ?_ trivial;show tj P t (some d) _ [(.c (.v (.mp o)),[(un2 fx cur).hp o]),(.c (.v (.p (.int _ n))),_)]=_;rw[cL ho];simp only[bI.un,tj,hu,hk,hc.2];rw[if_pos ⟨trivial,trivial,ga hc.1⟩];simp only[du,List.map_cons,List.map_nil,bI.un,TSl.un,TC.un,TL.un,z6];cases bG m n <;> rfl
     ·cases h
    ·cases h
   ·cases h
  ·cases h
 ·cases h
theorem Ny {t:TypeId} {hl hh:Bool} {d:Option Nat} {x:TSl} {as:List TSl} (h:Gk P fx cur t hl hh d x as k=some r):Did (tk P t hl hh d (aF (un2 fx cur).hp d) (cU fx cur x::as.map (cU fx cur))) k r:=by
 unfold Gk at h;split at h
 ·rename_i o d;split at h
  ·rename_i e t' l ho;split at h
   ·rename_i q z i j he hb;obtain⟨hc,h⟩:=aq h;rw[Bool.and_eq_true,eE,decide_eq_true_eq] at hc;obtain⟨m,hm,h⟩:=bind_some h;obtain⟨c1,c2,c3,c4,c5⟩:=p7 hm;refine did (c:=0<=i/\i<=j/\j<=((l.map (enc t')).length:Int)) _ _ h ?_ ⟨c2,c3,by simpa using c4⟩;show tk P t hl hh (some d) _ ((.c (.v (.own o)),[(un2 fx cur).hp o])::as.map (cU fx cur))=_;rw[cL ho];simp only[bI.un,tk,he];rw[show sT hl hh (l.map (enc t')).length (as.map (cU fx cur))=some (i,j) by rw[List.length_map]; exact uo hb];dsimp only;rw[if_pos ⟨hc.1,ga hc.2⟩];simp only[du,List.map_cons,List.map_nil,bI.un,TSl.un,TC.un,TL.un,← c1,List.map_drop,List.map_take]
   ·cases h
  ·cases h
 ·cases h
theorem Nz {t:Ty} (h:Kx t=true) (x:t.den):∃ p,enc t x=[p]/\p.toV=Rr t x/\t.gw=true/\t.cells=1:=by
 cases t <;> first | (cases h; done) | exact⟨_,rfl,rfl,rfl,rfl⟩
theorem P8 {t:TypeId} {d:Option Nat} (h:PN P H fx cur t d k=some r):Did (xt P t d (aF (un2 fx cur).hp d) []) k r:=by
 unfold PN at h;split at h
 ·rename_i m0 e0 d i te hu hi hh;split at h
  ·rename_i v hv;split at h
   ·rename_i p hp;split at h
    ·rename_i b;obtain⟨hc,h⟩:=aq h;rw[Bool.and_eq_true,Bool.and_eq_true,jR,decide_eq_true_eq] at hc;obtain⟨⟨hf,hm⟩,hr⟩:=hc;refine did (c:=True) _ _ h ?_ trivial;simp only[xt,hu,hi,hv,hp];rw[if_pos ⟨by rw[ga hf]; exact hr,hm⟩];exact congrArg (fun q=>some (⟨True,.x (.el d 0 0 1),[(d,.arr t 1 q)]⟩:Eff)) (List.map_replicate (f:=enc .bool) (a:=b) (n:=i.size)).symm
    ·rename_i kd n kd';split at h
     ·rename_i e1 _;have e1:=e1.down;subst e1;obtain⟨hc,h⟩:=aq h;rw[Bool.and_eq_true,Bool.and_eq_true,jR,decide_eq_true_eq] at hc;obtain⟨⟨hf,hm⟩,hr⟩:=hc;refine did (c:=True) _ _ h ?_ trivial;simp only[xt,hu,hi,hv,hp];rw[if_pos ⟨by rw[ga hf]; exact hr,hm⟩];exact congrArg (fun q=>some (⟨True,.x (.el d 0 0 1),[(d,.arr t 1 q)]⟩:Eff)) (List.map_replicate (f:=enc (.int kd)) (a:=n) (n:=i.size)).symm
     ·cases h
    ·cases h
   ·cases h
  ·cases h
 ·cases h
theorem wc {te:Ty} (hl:Kx te=true):∀ (ls:List TL) (k:List te.den->Option ρ),xU te ls k=some r->∃ l ps,k l=some r/\qy (ls.map TL.un)=some ps/\(ps.map fun p=>[p])=l.map (enc te)/\ps.length=ls.length
 | [],k,h=>⟨[],[],h,rfl,rfl,rfl⟩
 | .v t' x::ls,k,h=>by
  unfold xU at h;obtain⟨e,h⟩:=gj h;subst e;obtain⟨l,ps,h1,h2,h3,h4⟩:=wc hl ls _ h;obtain⟨p,hp,hpv,_⟩:=Nz hl x;have hu:(TL.v t' x).un = .p p:=by
   show (match enc t' x with | [p]=>av.p p | _=>.dead)=_;rw[hp]
  refine⟨_,p::ps,h1,?_,?_,by simp [h4]⟩
  ·rw[List.map_cons,hu];cases t' with
   | bool =>
    have hp:[PV.bool x]=[p]:=hp;injection hp with hp
    subst hp;show (qy (ls.map TL.un)).map _=_;rw[h2]; rfl
   | int kd =>
    have hp:[PV.int kd x]=[p]:=hp;injection hp with hp
    subst hp;show (qy (ls.map TL.un)).map _=_;rw[h2]; rfl
   | _=>cases hl
  ·rw[List.map_cons,List.map_cons,h3];show [p]::_=enc t' x::_;rw[hp]
 | .dead::_,k,h=>by cases h
 | .nil::_,k,h=>by cases h
 | .loc _ _::_,k,h=>by cases h
 | .own _::_,k,h=>by cases h
 | .el _ _ _ _::_,k,h=>by cases h
 | .ip _ _ _::_,k,h=>by cases h
 | .mp _::_,k,h=>by cases h
 | .fn _ _::_,k,h=>by cases h
 | .sv _ _ _ _::_,k,h=>by cases h
 | .oth _::_,k,h=>by cases h
 | .nb _ _ _::_,k,h=>by cases h
 | .tl _ _::_,k,h=>by cases h
 | .ps _::_,k,h=>by cases h
theorem NA {t:TypeId} {d:Option Nat} {x:TSl} (h:Ky P H fx cur t d x k=some r):Did (tn P t d (aF (un2 fx cur).hp d) [cU fx cur x]) k r:=by
 unfold Ky at h;split at h
 ·rename_i m0 e0 d te xs hu hh;obtain⟨hc,h⟩:=aq h;rw[Bool.and_eq_true,Bool.and_eq_true,jR,decide_eq_true_eq] at hc;obtain⟨⟨hf,hlf⟩,hm⟩:=hc;obtain⟨l,ps,h1,h2,h3,h4⟩:=wc hlf _ _ h;have hz:te.cells=1:=by cases te <;> first | rfl | cases hlf
  refine did (c:=True) _ _ h1 ?_ trivial;show tn P t (some d) _ [(.c (.g (xs.map TL.un)),_)]=_;simp only[tn,hu,h2];rw[if_pos ⟨ga hf,by rw[h4]; exact hm⟩,h3];simp only[du,List.map_cons,List.map_nil,bI.un,TSl.un,TC.un,TL.un,hz];rfl
 ·cases h
theorem KU {t:TypeId} {d:Option Nat} (h:Fa P H fx cur t d k=some r):Did (su P t d (aF (un2 fx cur).hp d) []) k r:=by
 unfold Fa at h;split at h
 ·rename_i kt et d te hu hh;split at h
  ·rename_i kd e z hk he;obtain⟨hc,h⟩:=aq h;rw[Bool.and_eq_true,eE,decide_eq_true_eq] at hc;refine did (c:=True) _ _ h ?_ trivial;simp only[su,hu,hk,he];rw[if_pos (ga hc.1)];simp only[du,List.map_cons,List.map_nil,bI.un,TSl.un,TC.un,TL.un,hc.2];rfl
  ·cases h
 ·cases h
end
end Go.Lad
