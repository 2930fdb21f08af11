import Derived.Test.YtkpefpjpadahiaaGreatDoorD7
namespace Go.Lad
set_option linter.unusedVariables false
set_option linter.unusedSimpArgs false
open Go.RowKit
section
variable {fx cur:TSt}
theorem N3 (l m:List (Nat×cV)) (o:Nat) (x:cV):Lad.upd (fun j=>(aq (l++m) j).map cV.un) o (some x.un)=fun j=>(aq (qp l o x++m) j).map cV.un:=by
 funext j
 show (if j=o then some x.un else (aq (l++m) j).map cV.un)=_;rw[bW,bW,ow];by_cases h:j=o
 ·simp [h]
 ·simp [h]
theorem EI:∀ (wr l m:List (Nat×cV)),eM (fun j=>(aq (l++m) j).map cV.un) (dY wr)=fun j=>(aq (NO l wr++m) j).map cV.un
 | [],l,m=>rfl
 | x::wr,l,m=>by
  show eM (Lad.upd (fun j=>(aq (l++m) j).map cV.un) x.1 (some x.2.un)) (dY wr)=_;rw[N3,EI wr];rfl
theorem Dw:(un2 fx cur).hp=fun j=>(aq (cur.hp++fx.hp) j).map cV.un:=by
 funext j; rw[gR,ku]
theorem Dx (d:Option Nat) (x:TSl) (wr:List (Nat×cV)) (c:Prop):(un2 fx cur).app d ⟨c,x.un,dY wr⟩=un2 fx (qq cur d x wr):=by
 refine St.ext' (fun k=>?_) (fun o=>?_)
 ·rw[iG];cases d with
  | none=>exact iG fx cur k
  | some d =>
   show (if k=d then x.un else (un2 fx cur).tm k)=_;rw[iG];unfold kr qq;dsimp only;rw[bW,bW,ow];by_cases h:k=d
   ·simp [h]
   ·simp [h]
 ·rw[gR,ku];show eM (un2 fx cur).hp (dY wr) o=_;rw[Dw,EI];rfl
end
def Con.argsAt (c:Con) (x:Tup c.ps):List TSl×List (Nat×cV)×List (Nat×cV) :=
 match ug c.ain (kR c.ps x) with
 | (as,ds)=>match mU c.kin ds with
  | (ks,ds)=>match mU c.hin ds with
   | (hs,_)=>(as,ks,hs)
def Con.mL (c:Con) (r:Tup c.qs):List TC×List (Nat×cV) :=
 match kW c.out.eH (kR c.qs r) with
 | (cs,ds)=>match mU c.iR ds with
  | (hs,_)=>(cs,hs)
def zo (o:RSh) (cs:List TC):Rz :=
 match o,cs with
 | .one _,[c]=>.one c.un
 | _,cs=>.tup (cs.map TC.un)
def Con.spec (c:Con) (x:Tup c.ps) (r:Tup c.qs):nw :=
 ⟨(c.argsAt x).1.map TSl.un,dY ((c.argsAt x).2.2++(c.argsAt x).2.1),zo c.out (c.mL r).1,dY ((c.mL r).2++(c.argsAt x).2.1)⟩
def au (P:Program) (c:Con):Prop:=lG P c.f=true/\∀ x r,c.fn x=some r->gP P c.f (c.spec x r)
theorem lU (ρ:List (Nat×Nat)) (o:Nat):rnT ρ o=rnN ρ o:=by
 unfold rnT rnN;rw[look_eq];cases aq ρ o <;> rfl
theorem uy (ρ:List (Nat×Nat)) (x:TL):(ue ρ x).un=rnL ρ x.un:=by
 cases x with
 | v t x =>
  show (TL.v t x).un=rnL ρ (TL.v t x).un;cases t <;> first | rfl | (show (match enc _ x with | [p]=>aJ.p p | _=>.dead)=rnL ρ (match enc _ x with | [p]=>aJ.p p | _=>.dead); split <;> rfl)
 | fn f caps=>show aJ.fn f (caps.map (rnT ρ)) = .fn f (caps.map (rnN ρ)); rw[List.map_congr_left fun o _=>lU ρ o]
 | loc o f=>show aJ.loc (rnT ρ o) f = .loc (rnN ρ o) f; rw[lU]
 | own o=>show aJ.own (rnT ρ o) = .own (rnN ρ o); rw[lU]
 | el o i f z=>show aJ.el (rnT ρ o) _ _ _ = .el (rnN ρ o) _ _ _; rw[lU]
 | mp o=>show aJ.mp (rnT ρ o) = .mp (rnN ρ o); rw[lU]
 | sv o a b z=>show aJ.sv (rnT ρ o) _ _ _ = .sv (rnN ρ o) _ _ _; rw[lU]
 | ps o=>show aJ.ps (rnT ρ o) = .ps (rnN ρ o); rw[lU]
 | dead=>rfl
 | nil=>rfl
 | ip t x off=>rfl
 | oth v=>rfl
 | nb p t l=>rfl
 | tl t l=>rfl
theorem EJ (ρ:List (Nat×Nat)) (c:TC):(IE ρ c).un=rnC ρ c.un:=by
 cases c with
 | v x=>show Cmp.v (ue ρ x).un = .v (rnL ρ x.un); rw[uy]
 | g xs =>
  show Cmp.g ((xs.map (ue ρ)).map TL.un) = .g ((xs.map TL.un).map (rnL ρ));rw[List.map_map,List.map_map];congr 1;exact List.map_congr_left fun x _=>uy ρ x
theorem EK (ρ:List (Nat×Nat)) (x:cV):(uf ρ x).un=rnH ρ x.un:=by
 cases x with
 | box t cs =>
  show df.box t ((cs.map (ue ρ)).map TL.un) = .box t ((cs.map TL.un).map (rnL ρ));rw[List.map_map,List.map_map];congr 1;exact List.map_congr_left fun x _=>uy ρ x
 | gone=>rfl
 | arr e t l=>rfl
 | fO k agg t m=>rfl
 | fa agg t m=>rfl
 | fb k agg t m=>rfl
 | ql k agg t m key d=>rfl
 | kV k e t m h=>rfl
 | lit t cs =>
  show df.lit t ((cs.map (ue ρ)).map TL.un) = .lit t ((cs.map TL.un).map (rnL ρ));rw[List.map_map,List.map_map];congr 1;exact List.map_congr_left fun x _=>uy ρ x
theorem Dy (o:RSh) (ρ:List (Nat×Nat)) (cs:List TC):(uw o ρ cs).un=rnZ ρ (zo o cs):=by
 unfold uw zo;split
 ·show Slot.c (IE ρ _).un=_;rw[EJ]; rfl
 ·rename_i hno;split
  ·rename_i c; exact absurd rfl (hno _ c rfl)
  ·show Slot.t ((cs.map (IE ρ)).map TC.un) = .t ((cs.map TC.un).map (rnC ρ));rw[List.map_map,List.map_map];congr 1;exact List.map_congr_left fun x _=>EJ ρ x
theorem EL (ρ:List (Nat×Nat)) (l:List (Nat×cV)):dY (l.map fun x=>(rnT ρ x.1,uf ρ x.2))=(dY l).map fun x=>(rnN ρ x.1,rnH ρ x.2):=by
 unfold dY;rw[List.map_map,List.map_map];exact List.map_congr_left fun x _=>by show (rnT ρ x.1,(uf ρ x.2).un)=(rnN ρ x.1,rnH ρ x.2.un); rw[lU,EK]
theorem Lo (t:Ty) (x:t.den):(TL.v t x).un.pc=false:=by
 show (match enc t x with | [p]=>aJ.p p | _=>.dead).pc=false;split <;> rfl
theorem Bn (t:Ty) (x:t.den):∀ y∈(dR t x).map TL.un,y.pc=false:=by
 rw[jx];intro y hy;obtain⟨p,hp,rfl⟩:=List.mem_map.1 hy;rfl
theorem Bo {s:LSh} {ds:List Dyn} (h:s.vX=true):(mkL s ds).1.un.pc=false:=by
 cases s with
 | d t =>
  cases ds with
  | nil=>rfl
  | cons d ds =>
   unfold mkL;dsimp only;split
   ·exact Lo _ _
   ·rfl
 | ip t=>cases h
 | _=>rfl
theorem x9:∀ (ss:List LSh) (ds:List Dyn),ss.all LSh.vX=true->∀ x∈(qP ss ds).1,x.un.pc=false
 | [],_,_,x,hx=>by cases hx
 | s::ss,ds,h,x,hx=>by
  rw[List.all_cons,Bool.and_eq_true] at h;have e:(qP (s::ss) ds).1=(mkL s ds).1::(qP ss (mkL s ds).2).1:=rfl;rw[e] at hx;rcases List.mem_cons.1 hx with rfl | hx
  ·exact Bo h.1
  ·exact x9 ss _ h.2 x hx
theorem Bp {s:CSh} {ds:List Dyn} (h:s.leaves.all LSh.vX=true):∀ x∈(mkC s ds).1.un.leaves,x.pc=false:=by
 cases s with
 | v s =>
  intro x hx;have e:(mkC (.v s) ds).1 = .v (mkL s ds).1:=rfl;rw[e] at hx;simp only[TC.un,Cmp.leaves,List.mem_singleton] at hx;subst hx;exact Bo (by simpa [CSh.leaves] using h)
 | g ss =>
  intro x hx;have e:(mkC (.g ss) ds).1 = .g (qP ss ds).1:=rfl;rw[e] at hx;simp only[TC.un,Cmp.leaves] at hx;obtain⟨y,hy,rfl⟩:=List.mem_map.1 hx;exact x9 ss ds h y hy
 | a t =>
  cases ds with
  | nil=>intro x hx; cases hx
  | cons d ds =>
   intro x hx;unfold mkC at hx;dsimp only at hx;split at hx
   ·exact Bn _ _ x hx
   ·cases hx
theorem ya:∀ (ss:List CSh) (ds:List Dyn),ss.all (fun c=>c.leaves.all LSh.vX)=true->∀ c∈(kW ss ds).1,∀ x∈c.un.leaves,x.pc=false
 | [],_,_,c,hc=>by cases hc
 | s::ss,ds,h,c,hc=>by
  rw[List.all_cons,Bool.and_eq_true] at h;have e:(kW (s::ss) ds).1=(mkC s ds).1::(kW ss (mkC s ds).2).1:=rfl;rw[e] at hc;rcases List.mem_cons.1 hc with rfl | hc
  ·exact Bp h.1
  ·exact ya ss _ h.2 c hc
theorem Gm {s:SSh} {ds:List Dyn} (h:s.vX=true):∀ l∈(xi s ds).1.un.lvs,l.pc=false:=by
 cases s with
 | dead=>intro l hl; cases hl
 | c x=>exact Bp h
 | t l =>
  intro y hy;obtain⟨c,hc,hy⟩:=List.mem_flatMap.1 hy;have e:(xi (.t l) ds).1 = .t (kW l ds).1:=rfl;obtain⟨c0,hc0,rfl⟩:=List.mem_map.1 hc;exact ya l ds h c0 hc0 y hy
theorem yb:∀ (ss:List SSh) (ds:List Dyn),ss.all SSh.vX=true->∀ y∈(ug ss ds).1.map TSl.un,∀ l∈y.lvs,l.pc=false
 | [],_,_,y,hy=>by cases hy
 | s::ss,ds,h,y,hy=>by
  rw[List.all_cons,Bool.and_eq_true] at h;have e:(ug (s::ss) ds).1=(xi s ds).1::(ug ss (xi s ds).2).1:=rfl;rw[e,List.map_cons] at hy;rcases List.mem_cons.1 hy with rfl | hy
  ·exact Gm h.1
  ·exact yb ss _ h.2 y hy
theorem Bq {s:LSh} {ds:List Dyn} (h:s.gd=true):flL (mkL s ds).1.un:=by
 cases s with
 | d t =>
  cases ds with
  | nil=>trivial
  | cons d ds =>
   unfold mkL;dsimp only;split
   ·rename_i g _;show flL (TL.v t (lf g.down d.x)).un;generalize lf g.down d.x=x;cases t with
    | sl e=>cases h
    | map kd e=>cases h
    | slu i=>cases h
    | pair a b =>
     show flL (match enc (.pair a b) x with | [p]=>aJ.p p | _=>.dead);split
     ·rename_i p hp;exact ki (.pair a b) x h p (by rw[hp]; simp)
     ·trivial
    | any=>rfl
    | int k=>rfl
    | bool=>rfl
    | str=>rfl
   ·trivial
 | dead=>trivial
 | pn=>rfl
 | mn=>rfl
 | ni=>rfl
 | bc b=>rfl
 | nil=>trivial
 | own o=>trivial
 | loc o f=>trivial
 | mp o=>trivial
 | fn f c=>trivial
 | ip t=>cases h
 | vp o=>trivial
 | ps o=>trivial
theorem tc:∀ (ss:List LSh) (ds:List Dyn),ss.all LSh.gd=true->∀ x∈(qP ss ds).1,flL x.un
 | [],_,_,x,hx=>by cases hx
 | s::ss,ds,h,x,hx=>by
  rw[List.all_cons,Bool.and_eq_true] at h;have e:(qP (s::ss) ds).1=(mkL s ds).1::(qP ss (mkL s ds).2).1:=rfl;rw[e] at hx;rcases List.mem_cons.1 hx with rfl | hx
  ·exact Bq h.1
  ·exact tc ss _ h.2 x hx
theorem zp {t:Ty} (h:t.gd=true) (x:t.den):∀ y∈(dR t x).map TL.un,flL y:=by
 rw[jx];intro y hy;obtain⟨p,hp,rfl⟩:=List.mem_map.1 hy;exact ki t x h p hp
theorem IY {s:CSh} {ds:List Dyn} (h:s.leaves.all LSh.gd=true):∀ x∈(mkC s ds).1.un.leaves,flL x:=by
 cases s with
 | v s =>
  intro x hx;have e:(mkC (.v s) ds).1 = .v (mkL s ds).1:=rfl;rw[e] at hx;simp only[TC.un,Cmp.leaves,List.mem_singleton] at hx;subst hx;exact Bq (by simpa [CSh.leaves] using h)
 | g ss =>
  intro x hx;have e:(mkC (.g ss) ds).1 = .g (qP ss ds).1:=rfl;rw[e] at hx;simp only[TC.un,Cmp.leaves] at hx;obtain⟨y,hy,rfl⟩:=List.mem_map.1 hx;exact tc ss ds h y hy
 | a t =>
  have hf:t.gd=true:=by simpa [CSh.leaves,LSh.gd] using h
  cases ds with
  | nil=>intro x hx; cases hx
  | cons d ds =>
   intro x hx;unfold mkC at hx;dsimp only at hx;split at hx
   ·exact zp hf _ x hx
   ·cases hx
theorem yc:∀ (ss:List CSh) (ds:List Dyn),ss.all (fun x=>x.leaves.all LSh.gd)=true->∀ c∈(kW ss ds).1,∀ x∈c.un.leaves,flL x
 | [],_,_,x,hx=>by cases hx
 | s::ss,ds,h,c,hc=>by
  rw[List.all_cons,Bool.and_eq_true] at h;have e:(kW (s::ss) ds).1=(mkC s ds).1::(kW ss (mkC s ds).2).1:=rfl;rw[e] at hc;rcases List.mem_cons.1 hc with rfl | hc
  ·exact IY h.1
  ·exact yc ss _ h.2 c hc
theorem IZ {s:OSh} {ds:List Dyn} (h:s.gd=true):flH (mkO s ds).1.un:=by
 cases s with
 | gone=>trivial
 | box t xs =>
  intro x hx;obtain⟨y,hy,rfl⟩:=List.mem_map.1 hx;exact tc xs ds h y hy
 | arr e t =>
  cases ds with
  | nil=>trivial
  | cons d ds =>
   intro row hr p hp;obtain⟨y,_,rfl⟩:=List.mem_map.1 hr;exact ki t y h p hp
 | fO k agg t=>cases ds <;> trivial
 | fa agg t =>
  cases ds with
  | nil=>trivial
  | cons d ds =>
   intro y hy p hp;obtain⟨q,_,rfl⟩:=List.mem_map.1 hy;exact ki t _ h p hp
 | fb k agg t=>cases ds <;> trivial
 | kV kd e t =>
  cases ds with
  | nil=>trivial
  | cons d ds =>
   intro y hy row hr p hp;obtain⟨q,_,rfl⟩:=List.mem_map.1 hy;obtain⟨z,_,rfl⟩:=List.mem_map.1 hr;exact ki t z h p hp
theorem td:∀ (ss:List (Nat×OSh)) (ds:List Dyn),ss.all (fun x=>x.2.gd)=true->∀ x∈dY (mU ss ds).1,flH x.2
 | [],_,_,x,hx=>by cases hx
 | s::ss,ds,h,x,hx=>by
  rw[List.all_cons,Bool.and_eq_true] at h;have e:(mU (s::ss) ds).1=(s.1,(mkO s.2 ds).1)::(mU ss (mkO s.2 ds).2).1:=rfl;rw[e] at hx;rcases List.mem_cons.1 hx with rfl | hx
  ·exact IZ h.1
  ·exact td ss _ h.2 x hx
section
variable {ρ:Type} {fx cur:TSt} {r:ρ}
theorem wz:∀ {ss:List SSh} {xs:List TSl} {f:FS} {k:KF ρ},uv fx cur ss xs f k=some r->Fits (β:=Unit) (γ:=Unit) (ug ss) (fun σ hps ys=>tD σ (un2 fx cur) hps (xs.map TSl.un) (ys.map TSl.un)) f k r
 | [],[],f,k,h=>⟨f,[],[],h,FS.le_refl f,fun _=>rfl,fun _ _ _ _ _=>trivial⟩
 | s::ss,x::xs,f,k,h=>by
  unfold uv at h;obtain⟨f1,ds,y,h1,l1,m1,r1⟩:=EG h;obtain⟨f2,es,ys,h2,l2,m2,r2⟩:=wz h1;refine⟨f2,ds++es,y::ys,h2,FS.le_trans l1 l2,fun gs=>?_,fun σ hps F hF hf=>⟨r1 σ hps F (FS.le_trans l2 hF) hf,r2 σ hps F hF hf⟩⟩;show (match xi s (ds++es++gs) with | (y,ds)=>match ug ss ds with | (l,ds)=>(y::l,ds))=_;rw[List.append_assoc,m1];dsimp only;rw[m2]
 | [],_::_,f,k,h=>by cases h
 | _::_,[],f,k,h=>by cases h
end
end Go.Lad
