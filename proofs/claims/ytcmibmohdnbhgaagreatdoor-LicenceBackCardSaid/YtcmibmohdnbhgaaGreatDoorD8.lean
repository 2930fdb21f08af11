import Derived.Test.YtcmibmohdnbhgaaGreatDoorD7
namespace Go.Lad
set_option linter.unusedVariables false
set_option linter.unusedSimpArgs false
open Go.RowKit
section
variable {fx cur:TSt}
theorem upd_un (l m:List (Nat × TObj)) (o:Nat) (x:TObj):Lad.upd (fun j=>(lookL (l ++ m) j).map TObj.un) o (some x.un) = fun j=>(lookL (putA l o x ++ m) j).map TObj.un:=by
 funext j
 show (if j = o then some x.un else (lookL (l ++ m) j).map TObj.un) = _
 rw[lookL_app,lookL_app,lookL_putA]
 by_cases h:j = o
 ·simp [h]
 ·simp [h]
theorem updL_un:∀ (wr l m:List (Nat × TObj)),updL (fun j=>(lookL (l ++ m) j).map TObj.un) (unHp wr) = fun j=>(lookL (putH l wr ++ m) j).map TObj.un
 | [],l,m=>rfl
 | x :: wr,l,m=>by
  show updL (Lad.upd (fun j=>(lookL (l ++ m) j).map TObj.un) x.1 (some x.2.un)) (unHp wr) = _
  rw[upd_un,updL_un wr]
  rfl
theorem un2_hp_fun:(un2 fx cur).hp = fun j=>(lookL (cur.hp ++ fx.hp) j).map TObj.un:=by
 funext j; rw[un2_hp,obT_eq]
theorem app_un (d:Option Nat) (x:TSl) (wr:List (Nat × TObj)) (c:Prop):(un2 fx cur).app d ⟨c,x.un,unHp wr⟩ = un2 fx (appT cur d x wr):=by
 refine St.ext' (fun k=>?_) (fun o=>?_)
 ·rw[un2_tm]
  cases d with
  | none=>exact un2_tm fx cur k
  | some d =>
   show (if k = d then x.un else (un2 fx cur).tm k) = _
   rw[un2_tm]
   unfold tmAt appT
   dsimp only
   rw[lookL_app,lookL_app,lookL_putA]
   by_cases h:k = d
   ·simp [h]
   ·simp [h]
 ·rw[un2_hp,obT_eq]
  show updL (un2 fx cur).hp (unHp wr) o = _
  rw[un2_hp_fun,updL_un]
  rfl
end
def Con.argsAt (c:Con) (x:Tup c.ps):List TSl × List (Nat × TObj) × List (Nat × TObj) :=
 match mkSs c.ain (ofTup c.ps x) with
 | (as,ds)=>match mkHp c.kin ds with
  | (ks,ds)=>match mkHp c.hin ds with
   | (hs,_)=>(as,ks,hs)
def Con.resAt (c:Con) (r:Tup c.qs):List TC × List (Nat × TObj) :=
 match mkCs c.out.comps (ofTup c.qs r) with
 | (cs,ds)=>match mkHp c.hout ds with
  | (hs,_)=>(cs,hs)
def rzOf (o:RSh) (cs:List TC):Rz :=
 match o,cs with
 | .one _,[c]=>.one c.un
 | _,cs=>.tup (cs.map TC.un)
def Con.spec (c:Con) (x:Tup c.ps) (r:Tup c.qs):HSpec :=
 ⟨(c.argsAt x).1.map TSl.un,unHp ((c.argsAt x).2.2 ++ (c.argsAt x).2.1),rzOf c.out (c.resAt r).1,unHp ((c.resAt r).2 ++ (c.argsAt x).2.1)⟩
def ConOK (P:Program) (c:Con):Prop:=callable P c.f = true ∧ ∀ x r,c.fn x = some r → MeetsH P c.f (c.spec x r)
theorem rnT_eq (ρ:List (Nat × Nat)) (o:Nat):rnT ρ o = rnN ρ o:=by
 unfold rnT rnN
 rw[look_eq]
 cases lookL ρ o <;> rfl
theorem rnTL_un (ρ:List (Nat × Nat)) (x:TL):(rnTL ρ x).un = rnL ρ x.un:=by
 cases x with
 | v t x =>
  show (TL.v t x).un = rnL ρ (TL.v t x).un
  cases t <;> first | rfl | (show (match enc _ x with | [p]=>Leaf.p p | _=>.dead) = rnL ρ (match enc _ x with | [p]=>Leaf.p p | _=>.dead); split <;> rfl)
 | fn f caps=>show Leaf.fn f (caps.map (rnT ρ)) = .fn f (caps.map (rnN ρ)); rw[List.map_congr_left fun o _=>rnT_eq ρ o]
 | loc o f=>show Leaf.loc (rnT ρ o) f = .loc (rnN ρ o) f; rw[rnT_eq]
 | own o=>show Leaf.own (rnT ρ o) = .own (rnN ρ o); rw[rnT_eq]
 | el o i f z=>show Leaf.el (rnT ρ o) _ _ _ = .el (rnN ρ o) _ _ _; rw[rnT_eq]
 | mp o=>show Leaf.mp (rnT ρ o) = .mp (rnN ρ o); rw[rnT_eq]
 | sv o a b z=>show Leaf.sv (rnT ρ o) _ _ _ = .sv (rnN ρ o) _ _ _; rw[rnT_eq]
 | dead=>rfl
 | nil=>rfl
 | ip t x off=>rfl
 | oth v=>rfl
 | nb p t l=>rfl
 | tl t l=>rfl
theorem rnTC_un (ρ:List (Nat × Nat)) (c:TC):(rnTC ρ c).un = rnC ρ c.un:=by
 cases c with
 | v x=>show Cmp.v (rnTL ρ x).un = .v (rnL ρ x.un); rw[rnTL_un]
 | g xs =>
  show Cmp.g ((xs.map (rnTL ρ)).map TL.un) = .g ((xs.map TL.un).map (rnL ρ))
  rw[List.map_map,List.map_map]
  congr 1
  exact List.map_congr_left fun x _=>rnTL_un ρ x
theorem rnTO_un (ρ:List (Nat × Nat)) (x:TObj):(rnTO ρ x).un = rnH ρ x.un:=by
 cases x with
 | box t cs =>
  show HObj.box t ((cs.map (rnTL ρ)).map TL.un) = .box t ((cs.map TL.un).map (rnL ρ))
  rw[List.map_map,List.map_map]
  congr 1
  exact List.map_congr_left fun x _=>rnTL_un ρ x
 | gone=>rfl
 | arr e t l=>rfl
 | mapI k agg t m=>rfl
 | mapS agg t m=>rfl
 | mapQ k agg t m=>rfl
 | mapE k agg t m key d=>rfl
 | mapL k e t m h=>rfl
 | lit t cs =>
  show HObj.lit t ((cs.map (rnTL ρ)).map TL.un) = .lit t ((cs.map TL.un).map (rnL ρ))
  rw[List.map_map,List.map_map]
  congr 1
  exact List.map_congr_left fun x _=>rnTL_un ρ x
theorem resSlot_un (o:RSh) (ρ:List (Nat × Nat)) (cs:List TC):(resSlot o ρ cs).un = rnZ ρ (rzOf o cs):=by
 unfold resSlot rzOf
 split
 ·show Slot.c (rnTC ρ _).un = _
  rw[rnTC_un]; rfl
 ·rename_i hno
  split
  ·rename_i c; exact absurd rfl (hno _ c rfl)
  ·show Slot.t ((cs.map (rnTC ρ)).map TC.un) = .t ((cs.map TC.un).map (rnC ρ))
   rw[List.map_map,List.map_map]
   congr 1
   exact List.map_congr_left fun x _=>rnTC_un ρ x
theorem unHp_rn (ρ:List (Nat × Nat)) (l:List (Nat × TObj)):unHp (l.map fun x=>(rnT ρ x.1,rnTO ρ x.2)) = (unHp l).map fun x=>(rnN ρ x.1,rnH ρ x.2):=by
 unfold unHp
 rw[List.map_map,List.map_map]
 exact List.map_congr_left fun x _=>by show (rnT ρ x.1,(rnTO ρ x.2).un) = (rnN ρ x.1,rnH ρ x.2.un); rw[rnT_eq,rnTO_un]
theorem un_noIp (t:Ty) (x:t.den):(TL.v t x).un.isIp = false:=by
 show (match enc t x with | [p]=>Leaf.p p | _=>.dead).isIp = false
 split <;> rfl
theorem leaves_noIp (t:Ty) (x:t.den):∀ y ∈ (leavesT t x).map TL.un,y.isIp = false:=by
 rw[leaves_un]
 intro y hy
 obtain⟨p,hp,rfl⟩:=List.mem_map.1 hy
 rfl
theorem mkL_noIp {s:LSh} {ds:List Dyn} (h:s.noIp = true):(mkL s ds).1.un.isIp = false:=by
 cases s with
 | d t =>
  cases ds with
  | nil=>rfl
  | cons d ds =>
   unfold mkL
   dsimp only
   split
   ·exact un_noIp _ _
   ·rfl
 | ip t=>cases h
 | _=>rfl
theorem mkLs_noIp:∀ (ss:List LSh) (ds:List Dyn),ss.all LSh.noIp = true → ∀ x ∈ (mkLs ss ds).1,x.un.isIp = false
 | [],_,_,x,hx=>by cases hx
 | s :: ss,ds,h,x,hx=>by
  rw[List.all_cons,Bool.and_eq_true] at h
  have e:(mkLs (s :: ss) ds).1 = (mkL s ds).1 :: (mkLs ss (mkL s ds).2).1:=rfl
  rw[e] at hx
  rcases List.mem_cons.1 hx with rfl | hx
  ·exact mkL_noIp h.1
  ·exact mkLs_noIp ss _ h.2 x hx
theorem mkC_noIp {s:CSh} {ds:List Dyn} (h:s.leaves.all LSh.noIp = true):∀ x ∈ (mkC s ds).1.un.leaves,x.isIp = false:=by
 cases s with
 | v s =>
  intro x hx
  have e:(mkC (.v s) ds).1 = .v (mkL s ds).1:=rfl
  rw[e] at hx
  simp only[TC.un,Cmp.leaves,List.mem_singleton] at hx
  subst hx
  exact mkL_noIp (by simpa [CSh.leaves] using h)
 | g ss =>
  intro x hx
  have e:(mkC (.g ss) ds).1 = .g (mkLs ss ds).1:=rfl
  rw[e] at hx
  simp only[TC.un,Cmp.leaves] at hx
  obtain⟨y,hy,rfl⟩:=List.mem_map.1 hx
  exact mkLs_noIp ss ds h y hy
 | a t =>
  cases ds with
  | nil=>intro x hx; cases hx
  | cons d ds =>
   intro x hx
   unfold mkC at hx
   dsimp only at hx
   split at hx
   ·exact leaves_noIp _ _ x hx
   ·cases hx
theorem mkCs_noIp:∀ (ss:List CSh) (ds:List Dyn),ss.all (fun c=>c.leaves.all LSh.noIp) = true → ∀ c ∈ (mkCs ss ds).1,∀ x ∈ c.un.leaves,x.isIp = false
 | [],_,_,c,hc=>by cases hc
 | s :: ss,ds,h,c,hc=>by
  rw[List.all_cons,Bool.and_eq_true] at h
  have e:(mkCs (s :: ss) ds).1 = (mkC s ds).1 :: (mkCs ss (mkC s ds).2).1:=rfl
  rw[e] at hc
  rcases List.mem_cons.1 hc with rfl | hc
  ·exact mkC_noIp h.1
  ·exact mkCs_noIp ss _ h.2 c hc
theorem mkS1_noIp {s:SSh} {ds:List Dyn} (h:s.noIp = true):∀ l ∈ (mkS1 s ds).1.un.lvs,l.isIp = false:=by
 cases s with
 | dead=>intro l hl; cases hl
 | c x=>exact mkC_noIp h
 | t l =>
  intro y hy
  obtain⟨c,hc,hy⟩:=List.mem_flatMap.1 hy
  have e:(mkS1 (.t l) ds).1 = .t (mkCs l ds).1:=rfl
  obtain⟨c0,hc0,rfl⟩:=List.mem_map.1 hc
  exact mkCs_noIp l ds h c0 hc0 y hy
theorem mkSs_noIp:∀ (ss:List SSh) (ds:List Dyn),ss.all SSh.noIp = true → ∀ y ∈ (mkSs ss ds).1.map TSl.un,∀ l ∈ y.lvs,l.isIp = false
 | [],_,_,y,hy=>by cases hy
 | s :: ss,ds,h,y,hy=>by
  rw[List.all_cons,Bool.and_eq_true] at h
  have e:(mkSs (s :: ss) ds).1 = (mkS1 s ds).1 :: (mkSs ss (mkS1 s ds).2).1:=rfl
  rw[e,List.map_cons] at hy
  rcases List.mem_cons.1 hy with rfl | hy
  ·exact mkS1_noIp h.1
  ·exact mkSs_noIp ss _ h.2 y hy
theorem mkL_flat {s:LSh} {ds:List Dyn} (h:s.flatB = true):flL (mkL s ds).1.un:=by
 cases s with
 | d t =>
  cases ds with
  | nil=>trivial
  | cons d ds =>
   unfold mkL
   dsimp only
   split
   ·rename_i g _
    show flL (TL.v t (castTy g.down d.x)).un
    generalize castTy g.down d.x = x
    cases t with
    | sl e=>cases h
    | map kd e=>cases h
    | slu i=>cases h
    | pair a b =>
     show flL (match enc (.pair a b) x with | [p]=>Leaf.p p | _=>.dead)
     split
     ·rename_i p hp
      exact enc_flat (.pair a b) x h p (by rw[hp]; simp)
     ·trivial
    | any=>rfl
    | int k=>rfl
    | bool=>rfl
    | str=>rfl
   ·trivial
 | dead=>trivial
 | pn=>rfl
 | mn=>rfl
 | bc b=>rfl
 | nil=>trivial
 | own o=>trivial
 | loc o f=>trivial
 | mp o=>trivial
 | fn f c=>trivial
 | ip t=>cases h
 | vp o=>trivial
theorem mkLs_flat:∀ (ss:List LSh) (ds:List Dyn),ss.all LSh.flatB = true → ∀ x ∈ (mkLs ss ds).1,flL x.un
 | [],_,_,x,hx=>by cases hx
 | s :: ss,ds,h,x,hx=>by
  rw[List.all_cons,Bool.and_eq_true] at h
  have e:(mkLs (s :: ss) ds).1 = (mkL s ds).1 :: (mkLs ss (mkL s ds).2).1:=rfl
  rw[e] at hx
  rcases List.mem_cons.1 hx with rfl | hx
  ·exact mkL_flat h.1
  ·exact mkLs_flat ss _ h.2 x hx
theorem leaves_flat' {t:Ty} (h:t.flatB = true) (x:t.den):∀ y ∈ (leavesT t x).map TL.un,flL y:=by
 rw[leaves_un]
 intro y hy
 obtain⟨p,hp,rfl⟩:=List.mem_map.1 hy
 exact enc_flat t x h p hp
theorem mkC_flat {s:CSh} {ds:List Dyn} (h:s.leaves.all LSh.flatB = true):∀ x ∈ (mkC s ds).1.un.leaves,flL x:=by
 cases s with
 | v s =>
  intro x hx
  have e:(mkC (.v s) ds).1 = .v (mkL s ds).1:=rfl
  rw[e] at hx
  simp only[TC.un,Cmp.leaves,List.mem_singleton] at hx
  subst hx
  exact mkL_flat (by simpa [CSh.leaves] using h)
 | g ss =>
  intro x hx
  have e:(mkC (.g ss) ds).1 = .g (mkLs ss ds).1:=rfl
  rw[e] at hx
  simp only[TC.un,Cmp.leaves] at hx
  obtain⟨y,hy,rfl⟩:=List.mem_map.1 hx
  exact mkLs_flat ss ds h y hy
 | a t =>
  have hf:t.flatB = true:=by simpa [CSh.leaves,LSh.flatB] using h
  cases ds with
  | nil=>intro x hx; cases hx
  | cons d ds =>
   intro x hx
   unfold mkC at hx
   dsimp only at hx
   split at hx
   ·exact leaves_flat' hf _ x hx
   ·cases hx
theorem mkCs_flat:∀ (ss:List CSh) (ds:List Dyn),ss.all (fun x=>x.leaves.all LSh.flatB) = true → ∀ c ∈ (mkCs ss ds).1,∀ x ∈ c.un.leaves,flL x
 | [],_,_,x,hx=>by cases hx
 | s :: ss,ds,h,c,hc=>by
  rw[List.all_cons,Bool.and_eq_true] at h
  have e:(mkCs (s :: ss) ds).1 = (mkC s ds).1 :: (mkCs ss (mkC s ds).2).1:=rfl
  rw[e] at hc
  rcases List.mem_cons.1 hc with rfl | hc
  ·exact mkC_flat h.1
  ·exact mkCs_flat ss _ h.2 c hc
theorem mkO_flat {s:OSh} {ds:List Dyn} (h:s.flatB = true):flH (mkO s ds).1.un:=by
 cases s with
 | gone=>trivial
 | box t xs =>
  intro x hx
  obtain⟨y,hy,rfl⟩:=List.mem_map.1 hx
  exact mkLs_flat xs ds h y hy
 | arr e t =>
  cases ds with
  | nil=>trivial
  | cons d ds =>
   intro row hr p hp
   obtain⟨y,_,rfl⟩:=List.mem_map.1 hr
   exact enc_flat t y h p hp
 | mapI k agg t=>cases ds <;> trivial
 | mapS agg t =>
  cases ds with
  | nil=>trivial
  | cons d ds =>
   intro y hy p hp
   obtain⟨q,_,rfl⟩:=List.mem_map.1 hy
   exact enc_flat t _ h p hp
 | mapQ k agg t=>cases ds <;> trivial
 | mapL kd e t =>
  cases ds with
  | nil=>trivial
  | cons d ds =>
   intro y hy row hr p hp
   obtain⟨q,_,rfl⟩:=List.mem_map.1 hy
   obtain⟨z,_,rfl⟩:=List.mem_map.1 hr
   exact enc_flat t z h p hp
theorem mkHp_flat:∀ (ss:List (Nat × OSh)) (ds:List Dyn),ss.all (fun x=>x.2.flatB) = true → ∀ x ∈ unHp (mkHp ss ds).1,flH x.2
 | [],_,_,x,hx=>by cases hx
 | s :: ss,ds,h,x,hx=>by
  rw[List.all_cons,Bool.and_eq_true] at h
  have e:(mkHp (s :: ss) ds).1 = (s.1,(mkO s.2 ds).1) :: (mkHp ss (mkO s.2 ds).2).1:=rfl
  rw[e] at hx
  rcases List.mem_cons.1 hx with rfl | hx
  ·exact mkO_flat h.1
  ·exact mkHp_flat ss _ h.2 x hx
section
variable {ρ:Type} {fx cur:TSt} {r:ρ}
theorem fitArgs_ok:∀ {ss:List SSh} {xs:List TSl} {f:FS} {k:KF ρ},fitArgs fx cur ss xs f k = some r → Fits (β:=Unit) (γ:=Unit) (mkSs ss) (fun σ hps ys=>SSubs σ (un2 fx cur) hps (xs.map TSl.un) (ys.map TSl.un)) f k r
 | [],[],f,k,h=>⟨f,[],[],h,FS.le_refl f,fun _=>rfl,fun _ _ _ _ _=>trivial⟩
 | s :: ss,x :: xs,f,k,h=>by
  unfold fitArgs at h
  obtain⟨f1,ds,y,h1,l1,m1,r1⟩:=fitS_ok h
  obtain⟨f2,es,ys,h2,l2,m2,r2⟩:=fitArgs_ok h1
  refine⟨f2,ds ++ es,y :: ys,h2,FS.le_trans l1 l2,fun gs=>?_,fun σ hps F hF hf=>⟨r1 σ hps F (FS.le_trans l2 hF) hf,r2 σ hps F hF hf⟩⟩
  show (match mkS1 s (ds ++ es ++ gs) with | (y,ds)=>match mkSs ss ds with | (l,ds)=>(y :: l,ds)) = _
  rw[List.append_assoc,m1]
  dsimp only
  rw[m2]
 | [],_ :: _,f,k,h=>by cases h
 | _ :: _,[],f,k,h=>by cases h
end
end Go.Lad
