import Derived.Test.YtkpefpjpadahiaaGreatDoorD11
namespace Go.Lad
set_option linter.unusedVariables false
set_option linter.unusedSimpArgs false
open Go.RowKit
theorem yi:∀ (as:List TSl) (i:Nat),oq i (as.map TSl.un)=nH (Ga i as)
 | [],_=>rfl
 | x::as,i=>by
  show (i,x.un)::oq (i+1) (as.map TSl.un)=(i,x.un)::nH (Ga (i+1) as);rw[yi as]
theorem Bw:∀ (ss:List SSh) (ds:List Dyn),(ug ss ds).1.length=ss.length
 | [],_=>rfl
 | s::ss,ds=>by
  show (ug ss (xi s ds).2).1.length+1=ss.length+1;rw[Bw ss]
theorem Bx:∀ (l:List CSh) (i:Nat) (ds:List Dyn),F9 (IJ i (l.map .c)) ds=(sU i (kW l ds).1,(kW l ds).2)
 | [],_,_=>rfl
 | c::l,i,ds=>by
  show (match mkC c ds with | (y,ds)=>match F9 (IJ (i+1) (l.map .c)) ds with | (l,ds)=>((i,TSl.c y)::l,ds))=_;cases hc:mkC c ds with
  | mk y ds' =>
   dsimp only;rw[Bx l (i+1) ds'];show _=(sU i (match mkC c ds with | (y,ds)=>match kW l ds with | (l,ds)=>(y::l,ds)).1,(match mkC c ds with | (y,ds)=>match kW l ds with | (l,ds)=>(y::l,ds)).2);rw[hc];rfl
theorem ER:∀ (cs:List TC) (i:Nat),nH (sU i cs)=((cs.map TC.un).zipIdx i).map fun x=>(x.2,Slot.c x.1)
 | [],_=>rfl
 | c::cs,i=>by
  show (i,Slot.c c.un)::nH (sU (i+1) cs)=_;rw[ER cs]; rfl
theorem yj:∀ (cs:List TC) (i t:Nat),aq (sU i cs) t=if i<=t then (cs[t-i]?).map TSl.c else none
 | [],i,t=>by simp [sU,aq]
 | c::cs,i,t=>by
  have e:aq (sU i (c::cs)) t=if t=i then some (TSl.c c) else aq (sU (i+1) cs) t:=rfl
  rw[e];by_cases h:t=i
  ·subst h; simp
  ·rw[if_neg h,yj cs (i+1) t];by_cases h2:i<=t
   ·rw[if_pos (by omega),if_pos h2,show t-i=(t-(i+1))+1 by omega,List.getElem?_cons_succ]
   ·rw[if_neg (by omega),if_neg h2]
section
variable {P:Program} {kin:List (Nat×cV)} {c:TSt}
theorem Ls {rv:ResultVar} {t:TC} (h:K4 P ⟨c.tm,c.hp++kin⟩ rv=some t):sJ P (un2 ⟨[],kin⟩ c) rv=some t.un:=by
 cases rv with
 | tmp k =>
  unfold K4 at h;dsimp only at h;rw[look_eq] at h;show (match (un2 ⟨[],kin⟩ c).tm k with | .c c=>some c | _=>none)=_;rw[iG];unfold kr;rw[List.append_nil];cases hl:aq c.tm k with
  | none=>rw[hl] at h; cases h
  | some v =>
   rw[hl] at h;cases v with
   | c x=>simp only[Option.some.injEq] at h; subst h; rfl
   | dead=>cases h
   | t l=>cases h
 | cell k ty =>
  unfold K4 at h;dsimp only at h;rw[look_eq] at h;cases hl:aq c.tm k with
  | none=>rw[hl] at h; cases h
  | some v =>
   rw[hl] at h;split at h
   ·rename_i o off heq;injection heq with heq
    split at h
    ·rename_i bt cs n ho hn;rw[look_eq] at ho;have h1:(un2 ⟨[],kin⟩ c).tm k = .c (.v (.loc o off)):=by
      rw[iG];unfold kr;rw[List.append_nil,hl,heq]; rfl
     have h2:(un2 ⟨[],kin⟩ c).hp o=some (.box bt (cs.map TL.un)):=by
      rw[gR,ku];show (aq (c.hp++kin) o).map cV.un=_;rw[ho]; rfl
     unfold sJ;dsimp only;rw[h1];dsimp only;rw[h2,hn];exact rF h
    ·cases h
   ·cases h
theorem By:∀ (rs:List ResultVar) (cs:List TC),A6 P ⟨c.tm,c.hp++kin⟩ rs=some cs->oo P (un2 ⟨[],kin⟩ c) rs=some (cs.map TC.un)
 | [],cs,h=>by
  simp only[A6,Option.some.injEq] at h;subst h; rfl
 | rv::rs,cs,h=>by
  unfold A6 at h;split at h
  ·rename_i t l h1 h2;simp only[Option.some.injEq] at h;subst h;unfold oo;rw[Ls h1,By rs l h2]; rfl
  ·cases h
theorem wD {α:Type} {l:List (Nat×α)} (h:(bh l).Nodup) {x:Nat×α} (hx:x∈l):aq l x.1=some x.2:=dw h hx
theorem ES {rs:List ResultVar} {out:RSh} {iR:List (Nat×OSh)} {qs:List Ty} {r:Tup qs} (hcl:jd ⟨[],kin⟩=true) (h:NT P rs kin out iR qs c=some r) :
  Ie P rs (un2 ⟨[],kin⟩ c) (zo out (kW out.eH (kR qs r)).1) (dY ((mU iR (kW out.eH (kR qs r)).2).1++kin)):=by
 unfold NT at h;split at h
 ·rename_i cs hcs;obtain⟨hk,h⟩:=lO h;simp only[Bool.and_eq_true] at hk;obtain⟨⟨⟨hk1,hk2⟩,hk3⟩,hk4⟩:=hk;rw[eU,decide_eq_true_eq] at hk3;obtain⟨r',hr,hs⟩:=nL h;injection hr with hr
  subst hr;unfold qR at hk1;simp only[Bool.and_eq_true,List.all_eq_true,Bool.or_eq_true] at hk1;have hkept:∀ x∈kin,obT ⟨[],kin⟩ ⟨sU 0 cs,c.hp⟩ x.1=some x.2:=by
   intro x hx;rw[ku];dsimp only;rw[bW];cases hl:aq c.hp x.1 with
   | none=>exact wD (jL _ hk2) hx
   | some v =>
    exfalso;rcases hk1.2 _ (dD hl) with h1 | h1
    ·cases h1
    ·dsimp only at h1;rw[look_eq,wD (jL _ hk2) hx] at h1;cases h1
  obtain⟨σ,hs⟩:=hs ⟨(fun x hx=>nomatch hx),hkept,hcl⟩;unfold Ie;rw[By rs cs hcs];dsimp only;have hst:un2 ⟨[],kin⟩ ⟨sU 0 cs,c.hp⟩=AO (cs.map TC.un) (un2 ⟨[],kin⟩ c).hp:=by
   refine St.ext' (fun k=>?_) (fun o=>?_)
   ·rw[iG];unfold kr;dsimp only;rw[List.append_nil,yj,if_pos (Nat.zero_le _),Nat.sub_zero];show _=(match (cs.map TC.un)[k]? with | some c=>Slot.c c | none=>.dead);rw[List.getElem?_map];cases cs[k]? <;> rfl
   ·rw[gR];show _=(un2 ⟨[],kin⟩ c).hp o;rw[gR]; rfl
  rw[hst] at hs;have hat:(Shp.at ⟨IJ 0 (out.eH.map .c),iR,qs⟩ r':TSt)=⟨sU 0 (kW out.eH (kR qs r')).1,(mU iR (kW out.eH (kR qs r')).2).1⟩:=by
   unfold Shp.at Shp.mk';dsimp only;rw[Bx]
  rw[hat] at hs;dsimp only at hs;rw[List.append_nil] at hs;have hlen:=Bv out.eH (kR qs r')
  revert hs hk3 hk4 hlen
  generalize (kW out.eH (kR qs r')).1=cs';intro hk4 hk3 hs hlen;cases out with
  | one c0 =>
   have:∃ y,cs'=[y]:=by
    cases cs' with
    | nil=>cases hlen
    | cons y l=>cases l with
     | nil=>exact⟨y,rfl⟩
     | cons _ _=>simp [RSh.eH] at hlen
   obtain⟨y,rfl⟩:=this;refine⟨trivial,?_,σ,hs⟩;rw[List.length_map,hk3]; rfl
  | tup l =>
   have e:zo (.tup l) cs' = .tup (cs'.map TC.un):=by unfold zo; split <;> first | (rename_i heq; cases heq; done) | rfl
   rw[e];have hl1:l.length≠1:=fun e=>by
    have hk4:(!Nat.beq l.length 1)=true:=hk4;rw[e] at hk4; cases hk4
   refine⟨?_,?_,σ,?_⟩
   ·show (cs'.map TC.un).length≠1;rw[List.length_map,hlen]; exact hl1
   ·show (cs.map TC.un).length=(cs'.map TC.un).length;rw[List.length_map,List.length_map,hk3,hlen]
   ·show Sub σ _ ((cs'.map TC.un).zipIdx.map fun x=>(x.2,Slot.c x.1)) _;rw[← ER cs' 0];exact hs
 ·cases h
end
def wE (E:Env) (con:Con) (fn:Func) (an:An):Bool :=
 (match fn.body with | some c=>hJ { js:=E.js,hs:=E.hs,vs:=E.fz,fz:=E.zs,mv:=E.ns,bx:=E.bs,nt:=fn.ntmps } fn.ntmps c && qt E.js c an | none=>false) && Nat.ble con.ain.length fn.ntmps && lG E.P con.f
def rS (E:Env) (fn:Func) (an:An):Prop := ∀ c,fn.body=some c->∀ x∈jW c an,I3 E { js:=E.js,hs:=E.hs,vs:=E.fz,fz:=E.zs,mv:=E.ns,bx:=E.bs,nt:=fn.ntmps } x
theorem rS.nil {E:Env} {fn:Func} {an:An} (h:E.IK=[]):rS E fn an:=fun _ _ _ _ hd h2=>by rw[h] at h2; cases h2
theorem N5 [Fuel] {E:Env} {con:Con} {fn:Func} {an:An} (hm:E.P.follows .mixedOrders=true) (hf:E.P.funcs[con.f]?=some fn) (hk:wE E con fn an=true) (hΦ:∀ k∈E.Φ,au E.P k) (hIt:∀ it∈E.its,Dz E.P it)
  (hHd:rS E fn an) (hrun:∀ x,fnT E fn an con.ain con.kin con.hin con.ps con.out con.iR con.qs x=con.fn x):au E.P con:=by
 unfold wE at hk;simp only[Bool.and_eq_true,il,decide_eq_true_eq] at hk;obtain⟨⟨k0,k3⟩,k4⟩:=hk;refine⟨k4,fun x r hr=>?_⟩;rw[← hrun] at hr;unfold fnT at hr;split at hr
 ·rename_i c hb;rw[hb] at k0;dsimp only at k0;rw[Bool.and_eq_true] at k0;obtain⟨k1,k2⟩:=k0;dsimp only at hr;obtain⟨hcl,hr⟩:=lO hr;have hlen:(con.spec x r).args.length<=fn.ntmps:=by
   show ((con.argsAt x).1.map TSl.un).length<=_;rw[List.length_map];show (ug con.ain (kR con.ps x)).1.length<=_;rw[Bw]; exact k3
  refine xh (Γ:={ js:=E.js,hs:=E.hs,vs:=E.fz,fz:=E.zs,mv:=E.ns,bx:=E.bs,nt:=fn.ntmps }) rfl hm hf hb k1 hlen ?_;have hst:st0 (con.spec x r)=un2 ⟨[],(con.argsAt x).2.1⟩ ⟨Ga 0 (con.argsAt x).1,(con.argsAt x).2.2⟩:=by
   show qH (oq 0 ((con.argsAt x).1.map TSl.un)) _=qH (nH (Ga 0 (con.argsAt x).1++[])) _;rw[yi,List.append_nil]; rfl
  rw[hst];refine ke hIt (Γ:={ js:=E.js,hs:=E.hs,vs:=E.fz,fz:=E.zs,mv:=E.ns,bx:=E.bs,nt:=fn.ntmps }) rfl hΦ ⟨rfl,rfl,rfl,rfl⟩ c an _ _ _ _ _ r _ (hHd c hb) k2 hr fun e c' hc=>?_;cases e with
  | exit i=>cases hc
  | normal=>exact ES hcl hc
  | ret=>exact ES hcl hc
 ·cases hr
theorem ai {P:Program}:∀ k∈([]:List Con),au P k:=fun _ h=>nomatch h
theorem cons_cons {P:Program} {c:Con} {l:List Con} (h:au P c) (t:∀ k∈l,au P k):∀ k∈c::l,au P k:=fun k hk=>by
 rcases List.mem_cons.1 hk with rfl | hk
 ·exact h
 ·exact t k hk
def aK [Fuel] (E:Env) (fn:Func) (an:An) (c:Con):Prop := ∀ x:Tup c.ps,fnT E fn an c.ain c.kin c.hin c.ps c.out c.iR c.qs x=c.fn x
theorem ax [Fuel] {E:Env} {con:Con} {fn:Func} {an:An} (hrun:aK E fn an con) (hm:E.P.follows .mixedOrders=true) (hf:E.P.funcs[con.f]?=some fn) (hk:wE E con fn an=true) (hΦ:∀ k∈E.Φ,au E.P k) (hIt:∀ it∈E.its,Dz E.P it:=by intro _ h; cases h) (hHd:rS E fn an:=by exact rS.nil rfl):au E.P con:=N5 hm hf hk hΦ hIt hHd hrun
end Go.Lad
