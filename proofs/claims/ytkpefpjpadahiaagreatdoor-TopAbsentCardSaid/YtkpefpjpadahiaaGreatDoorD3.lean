import Derived.Test.YtkpefpjpadahiaaGreatDoorD2
namespace Go.Lad
set_option linter.unusedVariables false
set_option linter.unusedSimpArgs false
open Go.RowKit
theorem il {a b:Nat}:Nat.ble a b=decide (a<=b):=by
 rw[Bool.eq_iff_iff,decide_eq_true_eq,Nat.ble_eq]
theorem eU {a b:Nat}:Nat.beq a b=decide (a=b):=by
 rw[Bool.eq_iff_iff,decide_eq_true_eq]; exact Nat.beq_eq ▸ Iff.rfl
theorem look_eq {α:Type}:∀ (l:List (Nat×α)) (k:Nat),look l k=aq l k
 | [],_=>rfl
 | x::r,k=>by
  unfold look aq;rw[eU,look_eq r k];by_cases h:k=x.1 <;> simp [h]
theorem bW {α:Type}:∀ (l m:List (Nat×α)) (k:Nat),aq (l++m) k=match aq l k with | some x=>some x | none=>aq m k
 | [],_,_=>rfl
 | x::r,m,k=>by
  rw[List.cons_append];have e:∀ l:List (Nat×α),aq (x::l) k=if k=x.1 then some x.2 else aq l k:=fun _=>rfl
  rw[e,e];by_cases h:k=x.1
  ·rw[if_pos h,if_pos h]
  ·rw[if_neg h,if_neg h]; exact bW r m k
theorem jw {α β:Type} (f:α->β):∀ (l:List (Nat×α)) (k:Nat),aq (l.map fun x=>(x.1,f x.2)) k=(aq l k).map f
 | [],_=>rfl
 | x::r,k=>by
  rw[List.map_cons];unfold aq;by_cases h:k=x.1
  ·simp [h]
  ·rw[if_neg h,if_neg h]; exact jw f r k
theorem pv {α:Type} (l m:List (Nat×α)) (k:Nat):qx l m k=aq (l++m) k:=by
 unfold qx;rw[look_eq,look_eq,bW];cases aq l k <;> rfl
theorem ow {α:Type}:∀ (l:List (Nat×α)) (k:Nat) (v:α) (j:Nat),aq (qp l k v) j=if j=k then some v else aq l j
 | [],k,v,j=>by simp [qp,aq]
 | x::r,k,v,j=>by
  unfold qp;rw[eU];by_cases h:k=x.1
  ·subst h;simp only[decide_true,cond_true];unfold aq;by_cases hj:j=x.1 <;> simp [hj]
  ·simp only[h,decide_false,cond_false];unfold aq;rw[ow r k v j];by_cases hj:j=x.1
   ·subst hj;have:¬ x.1=k:=fun e=>h e.symm;simp [this]
   ·simp [hj]
def kr (fx cur:TSt) (k:Nat):TSl:=(aq (cur.tm++fx.tm) k).getD .dead
theorem iG (fx cur:TSt) (k:Nat):(un2 fx cur).tm k=(kr fx cur k).un:=by
 show (aq (nH (cur.tm++fx.tm)) k).getD .dead=_;unfold nH kr;rw[jw TSl.un];cases aq (cur.tm++fx.tm) k <;> rfl
theorem ku (fx cur:TSt) (o:Nat):obT fx cur o=aq (cur.hp++fx.hp) o:=pv _ _ _
theorem gR (fx cur:TSt) (o:Nat):(un2 fx cur).hp o=(obT fx cur o).map cV.un:=by
 show aq (dY (cur.hp++fx.hp)) o=_;unfold dY;rw[jw cV.un,ku]
theorem pw {a b:Ty} {x:a.den} {y:b.den} (h:enc b y=enc a x):(TL.v b y).un=(TL.v a x).un:=by
 show (match enc b y with | [p]=>aJ.p p | _=>.dead)=(match enc a x with | [p]=>aJ.p p | _=>.dead);rw[h]
theorem K5 (x:TL):(KV x).un=x.un:=by
 unfold KV;split
 ·exact pw (pQ _ _)
 ·rfl
theorem NU (x:TSl):(nrm x).un=x.un:=by
 unfold nrm;split
 ·rename_i y;show Slot.c (.v (KV y).un) = .c (.v y.un);rw[K5]
 ·rfl
theorem K6 (fx cur:TSt) (c:Value->TSl) (t:Nat):evT fx cur c (.tmp t)=nrm (kr fx cur t):=by
 show (match qx cur.tm fx.tm t with | some x=>nrm x | none=>.dead)=_;unfold kr;rw[pv];cases aq (cur.tm++fx.tm) t <;> rfl
theorem St.ext' {s t:St} (h1:∀ k,s.tm k=t.tm k) (h2:∀ o,s.hp o=t.hp o):s=t:=by
 cases s; cases t
 simp only[St.mk.injEq];exact⟨funext h1,funext h2⟩
theorem sV (v:Value):(pR v).un=gF v:=by
 unfold pR gF;split
 ·rename_i k n;dsimp only;by_cases h:k.min<=n/\n<=k.max
  ·rw[if_pos h]; simp only[h.1,h.2,decide_true,Bool.and_self,cond_true]; rfl
  ·rw[if_neg h];have:(decide (k.min<=n) && decide (n<=k.max))=false:=by rw[Bool.eq_false_iff]; simpa using h
   rw[this]; rfl
 ·rfl
 ·rename_i s;dsimp only;by_cases h:s.size<=9223372036854775807
  ·rw[if_pos h];have:Nat.ble s.size 9223372036854775807=true:=by rw[il]; exact decide_eq_true h
   rw[this];show aJ.p (.str (mkS s.data.toList))=_;rw[y6]
  ·rw[if_neg h];have:Nat.ble s.size 9223372036854775807=false:=by rw[il]; exact decide_eq_false h
   rw[this]; rfl
 ·rfl
 ·rfl
 ·rfl
 ·rfl
 ·rfl
 ·split <;> first | rfl | simp_all
theorem we (v:Value):(cJ v).un=jQ v:=by
 unfold cJ jQ;split
 ·rename_i cs;dsimp only;by_cases h:cs.all (·.oneCell')=true
  ·rw[if_pos h,h];simp only[cond_true,TSl.un,TC.un,List.map_map];rw[show List.map (TL.un ∘ pR) cs.toList=List.map gF cs.toList from List.map_congr_left fun v _=>sV v]
  ·rw[if_neg h];rw[Bool.not_eq_true] at h;rw[h]; rfl
 ·rfl
 ·rename_i h1 h2;have:=sV v;simp only[TSl.un,TC.un,this]
theorem fF (fx cur:TSt) (x:Operand):(un2 fx cur).ev x=(evT fx cur cJ x).un:=by
 cases x with
 | tmp t=>rw[K6,NU]; exact iG fx cur t
 | const v=>exact (we v).symm
 | global g =>
  show (match w6 g with | some cs=>Slot.c (.v (.ip cs 0)) | none=>.dead)=TSl.un (match Eo g with | some d=>.c (.v (.ip d.t d.x 0)) | none=>.dead);rw[KU];cases Eo g <;> rfl
 | func f=>rfl
theorem A7 {P:Program} {t:TypeId} {cs:List TL} (h:Ep P t=some cs):jJ P t=some (cs.map TL.un):=by
 unfold Ep at h;unfold jJ;split at h
 ·rename_i i hi;rw[hi];dsimp only;split at h
  ·rename_i v hv;rw[hv];dsimp only;by_cases hc:v.cells.all (·.oneCell')=true
   ·rw[hc] at h;simp only[cond_true,Option.some.injEq] at h;subst h;rw[if_pos hc,List.map_map];congr 1;exact List.map_congr_left fun v _=>(sV v).symm
   ·rw[Bool.not_eq_true] at hc;rw[hc] at h; cases h
  ·cases h
 ·cases h
theorem jx:∀ (t:Ty) (x:t.den),(dR t x).map TL.un=(enc t x).map aJ.p
 | .any,_=>rfl
 | .int _,_=>rfl
 | .bool,_=>rfl
 | .str,_=>rfl
 | .sl _,_=>rfl
 | .map _ _,_=>rfl
 | .slu i,x=>(rfl:_=(enc (.sl (iz i)) (List.map (Uun i) x)).map aJ.p).trans (congrArg (List.map aJ.p) (pQ i x))
 | .pair a b,x=>by unfold dR enc; rw[List.map_append,List.map_append,jx a,jx b]
theorem Dn (t:Ty) (x:t.den):(dR t x).length=t.cells:=by
 have:=congrArg List.length (jx t x);rw[List.length_map,List.length_map,kO] at this;exact this
theorem gm {α:Type} {a b:Ty} {x:a.den} {k:b.den->Option α} {r:α} (h:kP a b x k=some r):∃ e:a=b,k (lf e x)=some r:=by
 unfold kP at h;split at h
 ·rename_i g _; exact⟨g.down,h⟩
 ·cases h
def ox:Ty->Bool
 | .pair _ _=>false
 | _=>true
theorem px {t:Ty} (h:ox t=true) (x:t.den):∃ p,enc t x=[p]/\(TL.v t x).un = .p p:=by
 cases t with
 | pair a b=>cases h
 | any=>exact⟨_,rfl,rfl⟩
 | int k=>exact⟨_,rfl,rfl⟩
 | bool=>exact⟨_,rfl,rfl⟩
 | str=>exact⟨_,rfl,rfl⟩
 | sl e=>exact⟨_,rfl,rfl⟩
 | map k e=>exact⟨_,rfl,rfl⟩
 | slu i=>exact⟨_,rfl,rfl⟩
theorem jK {ρ:Type} {t:Ty} {l:TL} {k:t.den->Option ρ} {r:ρ} (h:C7 t l k=some r):∃ x:t.den,l.un=(TL.v t x).un/\k x=some r:=by
 unfold C7 at h;split at h
 ·obtain⟨y,h,he⟩:=lg h;exact⟨y,(pw he).symm,h⟩
 ·cases h
theorem sW {ρ:Type} {r:ρ}:∀ (t:Ty) (ls:List TL) (k:t.den->List TL->Option ρ),AS t ls k=some r->∃ x rest,k x rest=some r/\∃ pre,ls=pre++rest/\pre.map TL.un=(enc t x).map aJ.p
 | .pair a b,ls,k,h=>by
  unfold AS at h;obtain⟨x,r1,h1,p1,rfl,e1⟩:=sW a ls _ h;obtain⟨y,r2,h2,p2,rfl,e2⟩:=sW b r1 _ h1;refine⟨(x,y),r2,h2,p1++p2,by rw[List.append_assoc],?_⟩;rw[List.map_append,e1,e2];show _=(enc a x++enc b y).map aJ.p;rw[List.map_append]
 | .int kd,[],k,h=>by cases h
 | .bool,[],k,h=>by cases h
 | .any,[],k,h=>by cases h
 | .any,l::ls,k,h=>by obtain⟨x,hu,h2⟩:=jK (t := .any) h; exact⟨x,ls,h2,[l],rfl,congrArg (fun u=>[u]) hu⟩
 | .str,[],k,h=>by cases h
 | .sl e,[],k,h=>by cases h
 | .map kd e,[],k,h=>by cases h
 | .int kd,l::ls,k,h=>by obtain⟨x,hu,h2⟩:=jK (t := .int kd) h; exact⟨x,ls,h2,[l],rfl,congrArg (fun u=>[u]) hu⟩
 | .bool,l::ls,k,h=>by obtain⟨x,hu,h2⟩:=jK (t := .bool) h; exact⟨x,ls,h2,[l],rfl,congrArg (fun u=>[u]) hu⟩
 | .str,l::ls,k,h=>by obtain⟨x,hu,h2⟩:=jK (t := .str) h; exact⟨x,ls,h2,[l],rfl,congrArg (fun u=>[u]) hu⟩
 | .sl e,l::ls,k,h=>by obtain⟨x,hu,h2⟩:=jK (t := .sl e) h; exact⟨x,ls,h2,[l],rfl,congrArg (fun u=>[u]) hu⟩
 | .slu i,[],k,h=>by cases h
 | .slu i,l::ls,k,h=>by obtain⟨x,hu,h2⟩:=jK (t := .slu i) h; exact⟨x,ls,h2,[l],rfl,congrArg (fun u=>[u]) hu⟩
 | .map kd e,l::ls,k,h=>by obtain⟨x,hu,h2⟩:=jK (t := .map kd e) h; exact⟨x,ls,h2,[l],rfl,congrArg (fun u=>[u]) hu⟩
theorem gz {ρ:Type} {r:ρ} {t:Ty} {ls:List TL} {k:t.den->Option ρ} (h:kQ t ls k=some r):∃ x,k x=some r/\ls.map TL.un=(enc t x).map aJ.p:=by
 unfold kQ at h;obtain⟨x,rest,h2,pre,rfl,e⟩:=sW t ls _ h;split at h2
 ·exact⟨x,h2,by rw[List.append_nil]; exact e⟩
 ·cases h2
theorem zg:∀ (l:List PV),dZ (l.map aJ.p)=some l
 | []=>rfl
 | p::l=>by rw[List.map_cons]; unfold dZ; rw[zg l]; rfl
theorem kx (c:TC):c.un.leaves=c.leaves.map TL.un:=by cases c <;> rfl
theorem rF {cs:List TL} {off n:Nat} {agg:Bool} {c:TC} (h:C8 cs off n agg=some c):nU (cs.map TL.un) off n agg=some c.un:=by
 unfold C8 at h;unfold nU;cases agg with
 | true =>
  simp only[cond_true,if_true] at h ⊢;by_cases hb:off+n<=cs.length
  ·rw[show Nat.ble (off+n) cs.length=true by rw[il]; exact decide_eq_true hb] at h;simp only[cond_true,Option.some.injEq] at h;subst h;rw[List.length_map,if_pos hb,List.map_drop.symm,List.map_take.symm]; rfl
  ·have:Nat.ble (off+n) cs.length=false:=by rw[il]; exact decide_eq_false hb
   rw[this] at h; cases h
 | false =>
  simp only[cond_false,Bool.false_eq_true,if_false] at h ⊢;rw[List.getElem?_map];cases hc:cs[off]? with
  | none=>rw[hc] at h; cases h
  | some x=>rw[hc] at h; simp only[Option.map_some,Option.some.injEq] at h ⊢; subst h; rfl
theorem aG {α:Type} {b:Bool} {x:Option α} {r:α} (h:cond b x none=some r):b=true/\x=some r:=by
 cases b with
 | true=>exact⟨rfl,h⟩
 | false=>cases h
theorem jo {fx cur:TSt} {d:Nat} (h:mZ fx cur d=true):aY (un2 fx cur).hp (some d)=true:=by
 unfold mZ at h;show (((un2 fx cur).hp d).isNone && decide (d<1000000))=true;rw[gR];split at h
 ·cases h
 ·rename_i hn;rw[hn];rw[il,decide_eq_true_eq] at h;simp; omega
end Go.Lad
