import Derived.Test.YtcmibmohdnbhgaaGreatDoorD11
namespace Go.Lad
set_option linter.unusedVariables false
set_option linter.unusedSimpArgs false
open Go.RowKit
theorem argTms_un:∀ (as:List TSl) (i:Nat),argTms i (as.map TSl.un) = unTm (numA i as)
 | [],_=>rfl
 | x :: as,i=>by
  show (i,x.un) :: argTms (i + 1) (as.map TSl.un) = (i,x.un) :: unTm (numA (i + 1) as)
  rw[argTms_un as]
theorem mkSs_len:∀ (ss:List SSh) (ds:List Dyn),(mkSs ss ds).1.length = ss.length
 | [],_=>rfl
 | s :: ss,ds=>by
  show (mkSs ss (mkS1 s ds).2).1.length + 1 = ss.length + 1
  rw[mkSs_len ss]
theorem mkTm_num:∀ (l:List CSh) (i:Nat) (ds:List Dyn),mkTm (numS i (l.map .c)) ds = (numT i (mkCs l ds).1,(mkCs l ds).2)
 | [],_,_=>rfl
 | c :: l,i,ds=>by
  show (match mkC c ds with | (y,ds)=>match mkTm (numS (i + 1) (l.map .c)) ds with | (l,ds)=>((i,TSl.c y) :: l,ds)) = _
  cases hc:mkC c ds with
  | mk y ds' =>
   dsimp only
   rw[mkTm_num l (i + 1) ds']
   show _ = (numT i (match mkC c ds with | (y,ds)=>match mkCs l ds with | (l,ds)=>(y :: l,ds)).1,(match mkC c ds with | (y,ds)=>match mkCs l ds with | (l,ds)=>(y :: l,ds)).2)
   rw[hc]
   rfl
theorem numT_un:∀ (cs:List TC) (i:Nat),unTm (numT i cs) = ((cs.map TC.un).zipIdx i).map fun x=>(x.2,Slot.c x.1)
 | [],_=>rfl
 | c :: cs,i=>by
  show (i,Slot.c c.un) :: unTm (numT (i + 1) cs) = _
  rw[numT_un cs]; rfl
theorem numT_look:∀ (cs:List TC) (i t:Nat),lookL (numT i cs) t = if i ≤ t then (cs[t - i]?).map TSl.c else none
 | [],i,t=>by simp [numT,lookL]
 | c :: cs,i,t=>by
  have e:lookL (numT i (c :: cs)) t = if t = i then some (TSl.c c) else lookL (numT (i + 1) cs) t:=rfl
  rw[e]
  by_cases h:t = i
  ·subst h; simp
  ·rw[if_neg h,numT_look cs (i + 1) t]
   by_cases h2:i ≤ t
   ·rw[if_pos (by omega),if_pos h2,show t - i = (t - (i + 1)) + 1 by omega,List.getElem?_cons_succ]
   ·rw[if_neg (by omega),if_neg h2]
section
variable {P:Program} {kin:List (Nat × TObj)} {c:TSt}
theorem resT_ok {rv:ResultVar} {t:TC} (h:resT P ⟨c.tm,c.hp ++ kin⟩ rv = some t):resCmp P (un2 ⟨[],kin⟩ c) rv = some t.un:=by
 cases rv with
 | tmp k =>
  unfold resT at h
  dsimp only at h
  rw[look_eq] at h
  show (match (un2 ⟨[],kin⟩ c).tm k with | .c c=>some c | _=>none) = _
  rw[un2_tm]
  unfold tmAt
  rw[List.append_nil]
  cases hl:lookL c.tm k with
  | none=>rw[hl] at h; cases h
  | some v =>
   rw[hl] at h
   cases v with
   | c x=>simp only[Option.some.injEq] at h; subst h; rfl
   | dead=>cases h
   | t l=>cases h
 | cell k ty =>
  unfold resT at h
  dsimp only at h
  rw[look_eq] at h
  cases hl:lookL c.tm k with
  | none=>rw[hl] at h; cases h
  | some v =>
   rw[hl] at h
   split at h
   ·rename_i o off heq
    injection heq with heq
    split at h
    ·rename_i bt cs n ho hn
     rw[look_eq] at ho
     have h1:(un2 ⟨[],kin⟩ c).tm k = .c (.v (.loc o off)):=by
      rw[un2_tm]
      unfold tmAt
      rw[List.append_nil,hl,heq]; rfl
     have h2:(un2 ⟨[],kin⟩ c).hp o = some (.box bt (cs.map TL.un)):=by
      rw[un2_hp,obT_eq]
      show (lookL (c.hp ++ kin) o).map TObj.un = _
      rw[ho]; rfl
     unfold resCmp
     dsimp only
     rw[h1]
     dsimp only
     rw[h2,hn]
     exact cutT_un h
    ·cases h
   ·cases h
theorem ressT_ok:∀ (rs:List ResultVar) (cs:List TC),ressT P ⟨c.tm,c.hp ++ kin⟩ rs = some cs → resCmps P (un2 ⟨[],kin⟩ c) rs = some (cs.map TC.un)
 | [],cs,h=>by
  simp only[ressT,Option.some.injEq] at h
  subst h; rfl
 | rv :: rs,cs,h=>by
  unfold ressT at h
  split at h
  ·rename_i t l h1 h2
   simp only[Option.some.injEq] at h
   subst h
   unfold resCmps
   rw[resT_ok h1,ressT_ok rs l h2]; rfl
  ·cases h
theorem nodup_look {α:Type} {l:List (Nat × α)} (h:(keysN l).Nodup) {x:Nat × α} (hx:x ∈ l):lookL l x.1 = some x.2:=lookL_of_mem h hx
theorem retT_ok {rs:List ResultVar} {out:RSh} {hout:List (Nat × OSh)} {qs:List Ty} {r:Tup qs} (hcl:closedT ⟨[],kin⟩ = true) (h:retT P rs kin out hout qs c = some r) :
  RetA P rs (un2 ⟨[],kin⟩ c) (rzOf out (mkCs out.comps (ofTup qs r)).1) (unHp ((mkHp hout (mkCs out.comps (ofTup qs r)).2).1 ++ kin)):=by
 unfold retT at h
 split at h
 ·rename_i cs hcs
  obtain⟨hk,h⟩:=rec_some h
  simp only[Bool.and_eq_true] at hk
  obtain⟨⟨⟨hk1,hk2⟩,hk3⟩,hk4⟩:=hk
  rw[beqN,decide_eq_true_eq] at hk3
  obtain⟨r',hr,hs⟩:=fitAll_ok h
  injection hr with hr
  subst hr
  unfold keysOK at hk1
  simp only[Bool.and_eq_true,List.all_eq_true,Bool.or_eq_true] at hk1
  have hkept:∀ x ∈ kin,obT ⟨[],kin⟩ ⟨numT 0 cs,c.hp⟩ x.1 = some x.2:=by
   intro x hx
   rw[obT_eq]
   dsimp only
   rw[lookL_app]
   cases hl:lookL c.hp x.1 with
   | none=>exact nodup_look (nodupN_iff _ hk2) hx
   | some v =>
    exfalso
    rcases hk1.2 _ (lookL_mem hl) with h1 | h1
    ·cases h1
    ·dsimp only at h1
     rw[look_eq,nodup_look (nodupN_iff _ hk2) hx] at h1
     cases h1
  obtain⟨σ,hs⟩:=hs ⟨(fun x hx=>nomatch hx),hkept,hcl⟩
  unfold RetA
  rw[ressT_ok rs cs hcs]
  dsimp only
  have hst:un2 ⟨[],kin⟩ ⟨numT 0 cs,c.hp⟩ = cmpSt (cs.map TC.un) (un2 ⟨[],kin⟩ c).hp:=by
   refine St.ext' (fun k=>?_) (fun o=>?_)
   ·rw[un2_tm]
    unfold tmAt
    dsimp only
    rw[List.append_nil,numT_look,if_pos (Nat.zero_le _),Nat.sub_zero]
    show _ = (match (cs.map TC.un)[k]? with | some c=>Slot.c c | none=>.dead)
    rw[List.getElem?_map]
    cases cs[k]? <;> rfl
   ·rw[un2_hp]
    show _ = (un2 ⟨[],kin⟩ c).hp o
    rw[un2_hp]; rfl
  rw[hst] at hs
  have hat:(Shp.at ⟨numS 0 (out.comps.map .c),hout,qs⟩ r':TSt) = ⟨numT 0 (mkCs out.comps (ofTup qs r')).1,(mkHp hout (mkCs out.comps (ofTup qs r')).2).1⟩:=by
   unfold Shp.at Shp.mk'
   dsimp only
   rw[mkTm_num]
  rw[hat] at hs
  dsimp only at hs
  rw[List.append_nil] at hs
  have hlen:=mkCs_len out.comps (ofTup qs r')
  revert hs hk3 hk4 hlen
  generalize (mkCs out.comps (ofTup qs r')).1 = cs'
  intro hk4 hk3 hs hlen
  cases out with
  | one c0 =>
   have:∃ y,cs' = [y]:=by
    cases cs' with
    | nil=>cases hlen
    | cons y l=>cases l with
     | nil=>exact⟨y,rfl⟩
     | cons _ _=>simp [RSh.comps] at hlen
   obtain⟨y,rfl⟩:=this
   refine⟨trivial,?_,σ,hs⟩
   rw[List.length_map,hk3]; rfl
  | tup l =>
   have e:rzOf (.tup l) cs' = .tup (cs'.map TC.un):=by unfold rzOf; split <;> first | (rename_i heq; cases heq; done) | rfl
   rw[e]
   have hl1:l.length ≠ 1:=fun e=>by
    have hk4:(!Nat.beq l.length 1) = true:=hk4
    rw[e] at hk4; cases hk4
   refine⟨?_,?_,σ,?_⟩
   ·show (cs'.map TC.un).length ≠ 1
    rw[List.length_map,hlen]; exact hl1
   ·show (cs.map TC.un).length = (cs'.map TC.un).length
    rw[List.length_map,List.length_map,hk3,hlen]
   ·show Sub σ _ ((cs'.map TC.un).zipIdx.map fun x=>(x.2,Slot.c x.1)) _
    rw[← numT_un cs' 0]
    exact hs
 ·cases h
end
def conCheck (E:Env) (con:Con) (fn:Func) (an:An):Bool :=
 (match fn.body with | some c=>codeOK { js:=E.js,hs:=E.hs,vs:=E.fz,fz:=E.zs,mv:=E.ns,bx:=E.bs,nt:=fn.ntmps } fn.ntmps c && jsOK E.js c an | none=>false) && Nat.ble con.ain.length fn.ntmps && callable E.P con.f
def HandsOK (E:Env) (fn:Func) (an:An):Prop := ∀ c,fn.body = some c → ∀ x ∈ handsOf c an,HandOK E { js:=E.js,hs:=E.hs,vs:=E.fz,fz:=E.zs,mv:=E.ns,bx:=E.bs,nt:=fn.ntmps } x
theorem HandsOK.nil {E:Env} {fn:Func} {an:An} (h:E.hands = []):HandsOK E fn an:=fun _ _ _ _ hd h2=>by rw[h] at h2; cases h2
theorem con_ok [Fuel] {E:Env} {con:Con} {fn:Func} {an:An} (hm:E.P.follows .mixedOrders = true) (hf:E.P.funcs[con.f]? = some fn) (hk:conCheck E con fn an = true) (hΦ:∀ k ∈ E.Φ,ConOK E.P k) (hIt:∀ it ∈ E.its,IterOK E.P it)
  (hHd:HandsOK E fn an) (hrun:∀ x,fnT E fn an con.ain con.kin con.hin con.ps con.out con.hout con.qs x = con.fn x):ConOK E.P con:=by
 unfold conCheck at hk
 simp only[Bool.and_eq_true,bleN,decide_eq_true_eq] at hk
 obtain⟨⟨k0,k3⟩,k4⟩:=hk
 refine⟨k4,fun x r hr=>?_⟩
 rw[← hrun] at hr
 unfold fnT at hr
 split at hr
 ·rename_i c hb
  rw[hb] at k0
  dsimp only at k0
  rw[Bool.and_eq_true] at k0
  obtain⟨k1,k2⟩:=k0
  dsimp only at hr
  obtain⟨hcl,hr⟩:=rec_some hr
  have hlen:(con.spec x r).args.length ≤ fn.ntmps:=by
   show ((con.argsAt x).1.map TSl.un).length ≤ _
   rw[List.length_map]
   show (mkSs con.ain (ofTup con.ps x)).1.length ≤ _
   rw[mkSs_len]; exact k3
  refine meets_of_code (Γ:={ js:=E.js,hs:=E.hs,vs:=E.fz,fz:=E.zs,mv:=E.ns,bx:=E.bs,nt:=fn.ntmps }) rfl hm hf hb k1 hlen ?_
  have hst:st0 (con.spec x r) = un2 ⟨[],(con.argsAt x).2.1⟩ ⟨numA 0 (con.argsAt x).1,(con.argsAt x).2.2⟩:=by
   show mkSt (argTms 0 ((con.argsAt x).1.map TSl.un)) _ = mkSt (unTm (numA 0 (con.argsAt x).1 ++ [])) _
   rw[argTms_un,List.append_nil]; rfl
  rw[hst]
  refine den_ok hIt (Γ:={ js:=E.js,hs:=E.hs,vs:=E.fz,fz:=E.zs,mv:=E.ns,bx:=E.bs,nt:=fn.ntmps }) rfl hΦ ⟨rfl,rfl,rfl,rfl⟩ c an _ _ _ _ _ r _ (hHd c hb) k2 hr fun e c' hc=>?_
  cases e with
  | exit i=>cases hc
  | normal=>exact retT_ok hcl hc
  | ret=>exact retT_ok hcl hc
 ·cases hr
theorem cons_nil {P:Program}:∀ k ∈ ([]:List Con),ConOK P k:=fun _ h=>nomatch h
theorem cons_cons {P:Program} {c:Con} {l:List Con} (h:ConOK P c) (t:∀ k ∈ l,ConOK P k):∀ k ∈ c :: l,ConOK P k:=fun k hk=>by
 rcases List.mem_cons.1 hk with rfl | hk
 ·exact h
 ·exact t k hk
def RunIs [Fuel] (E:Env) (fn:Func) (an:An) (c:Con):Prop := ∀ x:Tup c.ps,fnT E fn an c.ain c.kin c.hin c.ps c.out c.hout c.qs x = c.fn x
theorem run_ok [Fuel] {E:Env} {con:Con} {fn:Func} {an:An} (hrun:RunIs E fn an con) (hm:E.P.follows .mixedOrders = true) (hf:E.P.funcs[con.f]? = some fn) (hk:conCheck E con fn an = true) (hΦ:∀ k ∈ E.Φ,ConOK E.P k) (hIt:∀ it ∈ E.its,IterOK E.P it:=by intro _ h; cases h) (hHd:HandsOK E fn an:=by exact HandsOK.nil rfl):ConOK E.P con:=con_ok hm hf hk hΦ hIt hHd hrun
end Go.Lad
