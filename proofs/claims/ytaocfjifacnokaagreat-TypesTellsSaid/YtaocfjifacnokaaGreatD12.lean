import Derived.Test.YtaocfjifacnokaaGreatD11
namespace Go.Lad
set_option linter.unusedVariables false
set_option linter.unusedSimpArgs false
open Go.RowKit
theorem xH:∀ (as:List TSl) (i:Nat),nq i (as.map TSl.un) = kz (EU i as)
 | [],_=>rfl
 | x :: as,i=>by
  show (i,x.un) :: nq (i + 1) (as.map TSl.un) = (i,x.un) :: kz (EU (i + 1) as)
  rw[xH as]
theorem AY:∀ (ss:List SSh) (ds:List Dyn),(tj ss ds).1.length = ss.length
 | [],_=>rfl
 | s :: ss,ds=>by
  show (tj ss (u7 s ds).2).1.length + 1 = ss.length + 1
  rw[AY ss]
theorem AZ:∀ (l:List CSh) (i:Nat) (ds:List Dyn),Ar (G4 i (l.map .c)) ds = (rZ i (jO l ds).1,(jO l ds).2)
 | [],_,_=>rfl
 | c :: l,i,ds=>by
  show (match mkC c ds with | (y,ds)=>match Ar (G4 (i + 1) (l.map .c)) ds with | (l,ds)=>((i,TSl.c y) :: l,ds)) = _
  cases hc:mkC c ds with
  | mk y ds' =>
   dsimp only
   rw[AZ l (i + 1) ds']
   show _ = (rZ i (match mkC c ds with | (y,ds)=>match jO l ds with | (l,ds)=>(y :: l,ds)).1,(match mkC c ds with | (y,ds)=>match jO l ds with | (l,ds)=>(y :: l,ds)).2)
   rw[hc]
   rfl
theorem DW:∀ (cs:List TC) (i:Nat),kz (rZ i cs) = ((cs.map TC.un).zipIdx i).map fun x=>(x.2,Slot.c x.1)
 | [],_=>rfl
 | c :: cs,i=>by
  show (i,Slot.c c.un) :: kz (rZ (i + 1) cs) = _
  rw[DW cs]; rfl
theorem xI:∀ (cs:List TC) (i t:Nat),ae (rZ i cs) t = if i ≤ t then (cs[t - i]?).map TSl.c else none
 | [],i,t=>by simp [rZ,ae]
 | c :: cs,i,t=>by
  have e:ae (rZ i (c :: cs)) t = if t = i then some (TSl.c c) else ae (rZ (i + 1) cs) t:=rfl
  rw[e]
  by_cases h:t = i
  ·subst h; simp
  ·rw[if_neg h,xI cs (i + 1) t]
   by_cases h2:i ≤ t
   ·rw[if_pos (by omega),if_pos h2,show t - i = (t - (i + 1)) + 1 by omega,List.getElem?_cons_succ]
   ·rw[if_neg (by omega),if_neg h2]
section
variable {P:Program} {kin:List (Nat × cY)} {c:TSt}
theorem Jq {rv:ResultVar} {t:TC} (h:I5 P ⟨c.tm,c.hp ++ kin⟩ rv = some t):rP P (un2 ⟨[],kin⟩ c) rv = some t.un:=by
 cases rv with
 | tmp k =>
  unfold I5 at h
  dsimp only at h
  rw[look_eq] at h
  show (match (un2 ⟨[],kin⟩ c).tm k with | .c c=>some c | _=>none) = _
  rw[gq]
  unfold je
  rw[List.append_nil]
  cases hl:ae c.tm k with
  | none=>rw[hl] at h; cases h
  | some v =>
   rw[hl] at h
   cases v with
   | c x=>simp only[Option.some.injEq] at h; subst h; rfl
   | dead=>cases h
   | t l=>cases h
 | cell k ty =>
  unfold I5 at h
  dsimp only at h
  rw[look_eq] at h
  cases hl:ae c.tm k with
  | none=>rw[hl] at h; cases h
  | some v =>
   rw[hl] at h
   split at h
   ·rename_i o off heq
    injection heq with heq
    split at h
    ·rename_i bt cs n ho hn
     rw[look_eq] at ho
     have h1:(un2 ⟨[],kin⟩ c).tm k = .c (.v (.loc o off)):=by
      rw[gq]
      unfold je
      rw[List.append_nil,hl,heq]; rfl
     have h2:(un2 ⟨[],kin⟩ c).hp o = some (.box bt (cs.map TL.un)):=by
      rw[fO,iE]
      show (ae (c.hp ++ kin) o).map cY.un = _
      rw[ho]; rfl
     unfold rP
     dsimp only
     rw[h1]
     dsimp only
     rw[h2,hn]
     exact qH h
    ·cases h
   ·cases h
theorem A0:∀ (rs:List ResultVar) (cs:List TC),Ay P ⟨c.tm,c.hp ++ kin⟩ rs = some cs → np P (un2 ⟨[],kin⟩ c) rs = some (cs.map TC.un)
 | [],cs,h=>by
  simp only[Ay,Option.some.injEq] at h
  subst h; rfl
 | rv :: rs,cs,h=>by
  unfold Ay at h
  split at h
  ·rename_i t l h1 h2
   simp only[Option.some.injEq] at h
   subst h
   unfold np
   rw[Jq h1,A0 rs l h2]; rfl
  ·cases h
theorem vI {α:Type} {l:List (Nat × α)} (h:(aW l).Nodup) {x:Nat × α} (hx:x ∈ l):ae l x.1 = some x.2:=dw h hx
theorem DX {rs:List ResultVar} {out:RSh} {gR:List (Nat × OSh)} {qs:List Ty} {r:Tup qs} (hcl:gj ⟨[],kin⟩ = true) (h:K0 P rs kin out gR qs c = some r) :
  Gz P rs (un2 ⟨[],kin⟩ c) (yR out (jO out.fU (jH qs r)).1) (dN ((lT gR (jO out.fU (jH qs r)).2).1 ++ kin)):=by
 unfold K0 at h
 split at h
 ·rename_i cs hcs
  obtain⟨hk,h⟩:=jh h
  simp only[Bool.and_eq_true] at hk
  obtain⟨⟨⟨hk1,hk2⟩,hk3⟩,hk4⟩:=hk
  rw[eB,decide_eq_true_eq] at hk3
  obtain⟨r',hr,hs⟩:=jZ h
  injection hr with hr
  subst hr
  unfold oE at hk1
  simp only[Bool.and_eq_true,List.all_eq_true,Bool.or_eq_true] at hk1
  have hkept:∀ x ∈ kin,obT ⟨[],kin⟩ ⟨rZ 0 cs,c.hp⟩ x.1 = some x.2:=by
   intro x hx
   rw[iE]
   dsimp only
   rw[bT]
   cases hl:ae c.hp x.1 with
   | none=>exact vI (gZ _ hk2) hx
   | some v =>
    exfalso
    rcases hk1.2 _ (dg hl) with h1 | h1
    ·cases h1
    ·dsimp only at h1
     rw[look_eq,vI (gZ _ hk2) hx] at h1
     cases h1
  obtain⟨σ,hs⟩:=hs ⟨(fun x hx=>nomatch hx),hkept,hcl⟩
  unfold Gz
  rw[A0 rs cs hcs]
  dsimp only
  have hst:un2 ⟨[],kin⟩ ⟨rZ 0 cs,c.hp⟩ = Ad (cs.map TC.un) (un2 ⟨[],kin⟩ c).hp:=by
   refine St.ext' (fun k=>?_) (fun o=>?_)
   ·rw[gq]
    unfold je
    dsimp only
    rw[List.append_nil,xI,if_pos (Nat.zero_le _),Nat.sub_zero]
    show _ = (match (cs.map TC.un)[k]? with | some c=>Slot.c c | none=>.dead)
    rw[List.getElem?_map]
    cases cs[k]? <;> rfl
   ·rw[fO]
    show _ = (un2 ⟨[],kin⟩ c).hp o
    rw[fO]; rfl
  rw[hst] at hs
  have hat:(Shp.at ⟨G4 0 (out.fU.map .c),gR,qs⟩ r':TSt) = ⟨rZ 0 (jO out.fU (jH qs r')).1,(lT gR (jO out.fU (jH qs r')).2).1⟩:=by
   unfold Shp.at Shp.mk'
   dsimp only
   rw[AZ]
  rw[hat] at hs
  dsimp only at hs
  rw[List.append_nil] at hs
  have hlen:=vF out.fU (jH qs r')
  revert hs hk3 hk4 hlen
  generalize (jO out.fU (jH qs r')).1 = cs'
  intro hk4 hk3 hs hlen
  cases out with
  | one c0 =>
   have:∃ y,cs' = [y]:=by
    cases cs' with
    | nil=>cases hlen
    | cons y l=>cases l with
     | nil=>exact⟨y,rfl⟩
     | cons _ _=>simp [RSh.fU] at hlen
   obtain⟨y,rfl⟩:=this
   refine⟨trivial,?_,σ,hs⟩
   rw[List.length_map,hk3]; rfl
  | tup l =>
   have e:yR (.tup l) cs' = .tup (cs'.map TC.un):=by unfold yR; split <;> first | (rename_i heq; cases heq; done) | rfl
   rw[e]
   have hl1:l.length ≠ 1:=fun e=>by
    have hk4:(!Nat.beq l.length 1) = true:=hk4
    rw[e] at hk4; cases hk4
   refine⟨?_,?_,σ,?_⟩
   ·show (cs'.map TC.un).length ≠ 1
    rw[List.length_map,hlen]; exact hl1
   ·show (cs.map TC.un).length = (cs'.map TC.un).length
    rw[List.length_map,List.length_map,hk3,hlen]
   ·show Sub σ _ ((cs'.map TC.un).zipIdx.map fun x=>(x.2,Slot.c x.1)) _
    rw[← DW cs' 0]
    exact hs
 ·cases h
end
def vJ (E:Env) (con:Con) (fn:Func) (an:An):Bool :=
 (match fn.body with | some c=>fj { js:=E.js,hs:=E.hs,vs:=E.fz,fz:=E.zs,mv:=E.ns,bx:=E.bs,nt:=fn.ntmps } fn.ntmps c && oM E.js c an | none=>false) && Nat.ble con.ain.length fn.ntmps && lu E.P con.f
def qV (E:Env) (fn:Func) (an:An):Prop := ∀ c,fn.body = some c → ∀ x ∈ iS c an,Ho E { js:=E.js,hs:=E.hs,vs:=E.fz,fz:=E.zs,mv:=E.ns,bx:=E.bs,nt:=fn.ntmps } x
theorem qV.nil {E:Env} {fn:Func} {an:An} (h:E.G6 = []):qV E fn an:=fun _ _ _ _ hd h2=>by rw[h] at h2; cases h2
theorem Lc [Fuel] {E:Env} {con:Con} {fn:Func} {an:An} (hm:E.P.follows .mixedOrders = true) (hf:E.P.funcs[con.f]? = some fn) (hk:vJ E con fn an = true) (hΦ:∀ k ∈ E.Φ,ay E.P k) (hIt:∀ it ∈ E.its,oL E.P it)
  (hHd:qV E fn an) (hrun:∀ x,fnT E fn an con.ain con.kin con.hin con.ps con.out con.gR con.qs x = con.fn x):ay E.P con:=by
 unfold vJ at hk
 simp only[Bool.and_eq_true,lX,decide_eq_true_eq] at hk
 obtain⟨⟨k0,k3⟩,k4⟩:=hk
 refine⟨k4,fun x r hr=>?_⟩
 rw[← hrun] at hr
 unfold fnT at hr
 split at hr
 ·rename_i c hb
  rw[hb] at k0
  dsimp only at k0
  rw[Bool.and_eq_true] at k0
  obtain⟨k1,k2⟩:=k0
  dsimp only at hr
  obtain⟨hcl,hr⟩:=jh hr
  have hlen:(con.spec x r).args.length ≤ fn.ntmps:=by
   show ((con.argsAt x).1.map TSl.un).length ≤ _
   rw[List.length_map]
   show (tj con.ain (jH con.ps x)).1.length ≤ _
   rw[AY]; exact k3
  refine wJ (Γ:={ js:=E.js,hs:=E.hs,vs:=E.fz,fz:=E.zs,mv:=E.ns,bx:=E.bs,nt:=fn.ntmps }) rfl hm hf hb k1 hlen ?_
  have hst:st0 (con.spec x r) = un2 ⟨[],(con.argsAt x).2.1⟩ ⟨EU 0 (con.argsAt x).1,(con.argsAt x).2.2⟩:=by
   show kU (nq 0 ((con.argsAt x).1.map TSl.un)) _ = kU (kz (EU 0 (con.argsAt x).1 ++ [])) _
   rw[xH,List.append_nil]; rfl
  rw[hst]
  refine iq hIt (Γ:={ js:=E.js,hs:=E.hs,vs:=E.fz,fz:=E.zs,mv:=E.ns,bx:=E.bs,nt:=fn.ntmps }) rfl hΦ ⟨rfl,rfl,rfl,rfl⟩ c an _ _ _ _ _ r _ (hHd c hb) k2 hr fun e c' hc=>?_
  cases e with
  | exit i=>cases hc
  | normal=>exact DX hcl hc
  | ret=>exact DX hcl hc
 ·cases hr
theorem ak {P:Program}:∀ k ∈ ([]:List Con),ay P k:=fun _ h=>nomatch h
theorem cons_cons {P:Program} {c:Con} {l:List Con} (h:ay P c) (t:∀ k ∈ l,ay P k):∀ k ∈ c :: l,ay P k:=fun k hk=>by
 rcases List.mem_cons.1 hk with rfl | hk
 ·exact h
 ·exact t k hk
def bC [Fuel] (E:Env) (fn:Func) (an:An) (c:Con):Prop := ∀ x:Tup c.ps,fnT E fn an c.ain c.kin c.hin c.ps c.out c.gR c.qs x = c.fn x
theorem aG [Fuel] {E:Env} {con:Con} {fn:Func} {an:An} (hrun:bC E fn an con) (hm:E.P.follows .mixedOrders = true) (hf:E.P.funcs[con.f]? = some fn) (hk:vJ E con fn an = true) (hΦ:∀ k ∈ E.Φ,ay E.P k) (hIt:∀ it ∈ E.its,oL E.P it:=by intro _ h; cases h) (hHd:qV E fn an:=by exact qV.nil rfl):ay E.P con:=Lc hm hf hk hΦ hIt hHd hrun
end Go.Lad
