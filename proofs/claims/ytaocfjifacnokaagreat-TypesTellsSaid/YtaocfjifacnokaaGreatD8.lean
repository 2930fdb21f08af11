import Derived.Test.YtaocfjifacnokaaGreatD7
namespace Go.Lad
set_option linter.unusedVariables false
set_option linter.unusedSimpArgs false
open Go.RowKit
section
variable {fx cur:TSt}
theorem La (l m:List (Nat × cY)) (o:Nat) (x:cY):Lad.upd (fun j=>(ae (l ++ m) j).map cY.un) o (some x.un) = fun j=>(ae (pA l o x ++ m) j).map cY.un:=by
 funext j
 show (if j = o then some x.un else (ae (l ++ m) j).map cY.un) = _
 rw[bT,bT,nA]
 by_cases h:j = o
 ·simp [h]
 ·simp [h]
theorem DP:∀ (wr l m:List (Nat × cY)),eA (fun j=>(ae (l ++ m) j).map cY.un) (dN wr) = fun j=>(ae (KV l wr ++ m) j).map cY.un
 | [],l,m=>rfl
 | x :: wr,l,m=>by
  show eA (Lad.upd (fun j=>(ae (l ++ m) j).map cY.un) x.1 (some x.2.un)) (dN wr) = _
  rw[La,DP wr]
  rfl
theorem CF:(un2 fx cur).hp = fun j=>(ae (cur.hp ++ fx.hp) j).map cY.un:=by
 funext j; rw[fO,iE]
theorem CG (d:Option Nat) (x:TSl) (wr:List (Nat × cY)) (c:Prop):(un2 fx cur).app d ⟨c,x.un,dN wr⟩ = un2 fx (pB cur d x wr):=by
 refine St.ext' (fun k=>?_) (fun o=>?_)
 ·rw[gq]
  cases d with
  | none=>exact gq fx cur k
  | some d =>
   show (if k = d then x.un else (un2 fx cur).tm k) = _
   rw[gq]
   unfold je pB
   dsimp only
   rw[bT,bT,nA]
   by_cases h:k = d
   ·simp [h]
   ·simp [h]
 ·rw[fO,iE]
  show eA (un2 fx cur).hp (dN wr) o = _
  rw[CF,DP]
  rfl
end
def Con.argsAt (c:Con) (x:Tup c.ps):List TSl × List (Nat × cY) × List (Nat × cY) :=
 match tj c.ain (jH c.ps x) with
 | (as,ds)=>match lT c.kin ds with
  | (ks,ds)=>match lT c.hin ds with
   | (hs,_)=>(as,ks,hs)
def Con.lJ (c:Con) (r:Tup c.qs):List TC × List (Nat × cY) :=
 match jO c.out.fU (jH c.qs r) with
 | (cs,ds)=>match lT c.gR ds with
  | (hs,_)=>(cs,hs)
def yR (o:RSh) (cs:List TC):Rz :=
 match o,cs with
 | .one _,[c]=>.one c.un
 | _,cs=>.tup (cs.map TC.un)
def Con.spec (c:Con) (x:Tup c.ps) (r:Tup c.qs):qq :=
 ⟨(c.argsAt x).1.map TSl.un,dN ((c.argsAt x).2.2 ++ (c.argsAt x).2.1),yR c.out (c.lJ r).1,dN ((c.lJ r).2 ++ (c.argsAt x).2.1)⟩
def ay (P:Program) (c:Con):Prop:=lu P c.f = true ∧ ∀ x r,c.fn x = some r → pP P c.f (c.spec x r)
theorem mj (ρ:List (Nat × Nat)) (o:Nat):rnT ρ o = rnN ρ o:=by
 unfold rnT rnN
 rw[look_eq]
 cases ae ρ o <;> rfl
theorem tH (ρ:List (Nat × Nat)) (x:TL):(th ρ x).un = rnL ρ x.un:=by
 cases x with
 | v t x =>
  show (TL.v t x).un = rnL ρ (TL.v t x).un
  cases t <;> first | rfl | (show (match enc _ x with | [p]=>aJ.p p | _=>.dead) = rnL ρ (match enc _ x with | [p]=>aJ.p p | _=>.dead); split <;> rfl)
 | fn f caps=>show aJ.fn f (caps.map (rnT ρ)) = .fn f (caps.map (rnN ρ)); rw[List.map_congr_left fun o _=>mj ρ o]
 | loc o f=>show aJ.loc (rnT ρ o) f = .loc (rnN ρ o) f; rw[mj]
 | own o=>show aJ.own (rnT ρ o) = .own (rnN ρ o); rw[mj]
 | el o i f z=>show aJ.el (rnT ρ o) _ _ _ = .el (rnN ρ o) _ _ _; rw[mj]
 | mp o=>show aJ.mp (rnT ρ o) = .mp (rnN ρ o); rw[mj]
 | sv o a b z=>show aJ.sv (rnT ρ o) _ _ _ = .sv (rnN ρ o) _ _ _; rw[mj]
 | dead=>rfl
 | nil=>rfl
 | ip t x off=>rfl
 | oth v=>rfl
 | nb p t l=>rfl
 | tl t l=>rfl
theorem DQ (ρ:List (Nat × Nat)) (c:TC):(GW ρ c).un = rnC ρ c.un:=by
 cases c with
 | v x=>show Cmp.v (th ρ x).un = .v (rnL ρ x.un); rw[tH]
 | g xs =>
  show Cmp.g ((xs.map (th ρ)).map TL.un) = .g ((xs.map TL.un).map (rnL ρ))
  rw[List.map_map,List.map_map]
  congr 1
  exact List.map_congr_left fun x _=>tH ρ x
theorem DR (ρ:List (Nat × Nat)) (x:cY):(ve ρ x).un = rnH ρ x.un:=by
 cases x with
 | box t cs =>
  show dv.box t ((cs.map (th ρ)).map TL.un) = .box t ((cs.map TL.un).map (rnL ρ))
  rw[List.map_map,List.map_map]
  congr 1
  exact List.map_congr_left fun x _=>tH ρ x
 | gone=>rfl
 | arr e t l=>rfl
 | ix k agg t m=>rfl
 | fi agg t m=>rfl
 | iy k agg t m=>rfl
 | py k agg t m key d=>rfl
 | jN k e t m h=>rfl
 | lit t cs =>
  show dv.lit t ((cs.map (th ρ)).map TL.un) = .lit t ((cs.map TL.un).map (rnL ρ))
  rw[List.map_map,List.map_map]
  congr 1
  exact List.map_congr_left fun x _=>tH ρ x
theorem CH (o:RSh) (ρ:List (Nat × Nat)) (cs:List TC):(tD o ρ cs).un = rnZ ρ (yR o cs):=by
 unfold tD yR
 split
 ·show Slot.c (GW ρ _).un = _
  rw[DQ]; rfl
 ·rename_i hno
  split
  ·rename_i c; exact absurd rfl (hno _ c rfl)
  ·show Slot.t ((cs.map (GW ρ)).map TC.un) = .t ((cs.map TC.un).map (rnC ρ))
   rw[List.map_map,List.map_map]
   congr 1
   exact List.map_congr_left fun x _=>DQ ρ x
theorem DS (ρ:List (Nat × Nat)) (l:List (Nat × cY)):dN (l.map fun x=>(rnT ρ x.1,ve ρ x.2)) = (dN l).map fun x=>(rnN ρ x.1,rnH ρ x.2):=by
 unfold dN
 rw[List.map_map,List.map_map]
 exact List.map_congr_left fun x _=>by show (rnT ρ x.1,(ve ρ x.2).un) = (rnN ρ x.1,rnH ρ x.2.un); rw[mj,DR]
theorem Jl (t:Ty) (x:t.den):(TL.v t x).un.oo = false:=by
 show (match enc t x with | [p]=>aJ.p p | _=>.dead).oo = false
 split <;> rfl
theorem AQ (t:Ty) (x:t.den):∀ y ∈ (dH t x).map TL.un,y.oo = false:=by
 rw[gO]
 intro y hy
 obtain⟨p,hp,rfl⟩:=List.mem_map.1 hy
 rfl
theorem AR {s:LSh} {ds:List Dyn} (h:s.vg = true):(mkL s ds).1.un.oo = false:=by
 cases s with
 | d t =>
  cases ds with
  | nil=>rfl
  | cons d ds =>
   unfold mkL
   dsimp only
   split
   ·exact Jl _ _
   ·rfl
 | ip t=>cases h
 | _=>rfl
theorem xy:∀ (ss:List LSh) (ds:List Dyn),ss.all LSh.vg = true → ∀ x ∈ (pX ss ds).1,x.un.oo = false
 | [],_,_,x,hx=>by cases hx
 | s :: ss,ds,h,x,hx=>by
  rw[List.all_cons,Bool.and_eq_true] at h
  have e:(pX (s :: ss) ds).1 = (mkL s ds).1 :: (pX ss (mkL s ds).2).1:=rfl
  rw[e] at hx
  rcases List.mem_cons.1 hx with rfl | hx
  ·exact AR h.1
  ·exact xy ss _ h.2 x hx
theorem AS {s:CSh} {ds:List Dyn} (h:s.leaves.all LSh.vg = true):∀ x ∈ (mkC s ds).1.un.leaves,x.oo = false:=by
 cases s with
 | v s =>
  intro x hx
  have e:(mkC (.v s) ds).1 = .v (mkL s ds).1:=rfl
  rw[e] at hx
  simp only[TC.un,Cmp.leaves,List.mem_singleton] at hx
  subst hx
  exact AR (by simpa [CSh.leaves] using h)
 | g ss =>
  intro x hx
  have e:(mkC (.g ss) ds).1 = .g (pX ss ds).1:=rfl
  rw[e] at hx
  simp only[TC.un,Cmp.leaves] at hx
  obtain⟨y,hy,rfl⟩:=List.mem_map.1 hx
  exact xy ss ds h y hy
 | a t =>
  cases ds with
  | nil=>intro x hx; cases hx
  | cons d ds =>
   intro x hx
   unfold mkC at hx
   dsimp only at hx
   split at hx
   ·exact AQ _ _ x hx
   ·cases hx
theorem xz:∀ (ss:List CSh) (ds:List Dyn),ss.all (fun c=>c.leaves.all LSh.vg) = true → ∀ c ∈ (jO ss ds).1,∀ x ∈ c.un.leaves,x.oo = false
 | [],_,_,c,hc=>by cases hc
 | s :: ss,ds,h,c,hc=>by
  rw[List.all_cons,Bool.and_eq_true] at h
  have e:(jO (s :: ss) ds).1 = (mkC s ds).1 :: (jO ss (mkC s ds).2).1:=rfl
  rw[e] at hc
  rcases List.mem_cons.1 hc with rfl | hc
  ·exact AS h.1
  ·exact xz ss _ h.2 c hc
theorem E3 {s:SSh} {ds:List Dyn} (h:s.vg = true):∀ l ∈ (u7 s ds).1.un.lvs,l.oo = false:=by
 cases s with
 | dead=>intro l hl; cases hl
 | c x=>exact AS h
 | t l =>
  intro y hy
  obtain⟨c,hc,hy⟩:=List.mem_flatMap.1 hy
  have e:(u7 (.t l) ds).1 = .t (jO l ds).1:=rfl
  obtain⟨c0,hc0,rfl⟩:=List.mem_map.1 hc
  exact xz l ds h c0 hc0 y hy
theorem xA:∀ (ss:List SSh) (ds:List Dyn),ss.all SSh.vg = true → ∀ y ∈ (tj ss ds).1.map TSl.un,∀ l ∈ y.lvs,l.oo = false
 | [],_,_,y,hy=>by cases hy
 | s :: ss,ds,h,y,hy=>by
  rw[List.all_cons,Bool.and_eq_true] at h
  have e:(tj (s :: ss) ds).1 = (u7 s ds).1 :: (tj ss (u7 s ds).2).1:=rfl
  rw[e,List.map_cons] at hy
  rcases List.mem_cons.1 hy with rfl | hy
  ·exact E3 h.1
  ·exact xA ss _ h.2 y hy
theorem AT {s:LSh} {ds:List Dyn} (h:s.fK = true):flL (mkL s ds).1.un:=by
 cases s with
 | d t =>
  cases ds with
  | nil=>trivial
  | cons d ds =>
   unfold mkL
   dsimp only
   split
   ·rename_i g _
    show flL (TL.v t (jT g.down d.x)).un
    generalize jT g.down d.x = x
    cases t with
    | sl e=>cases h
    | map kd e=>cases h
    | slu i=>cases h
    | pair a b =>
     show flL (match enc (.pair a b) x with | [p]=>aJ.p p | _=>.dead)
     split
     ·rename_i p hp
      exact jg (.pair a b) x h p (by rw[hp]; simp)
     ·trivial
    | any=>rfl
    | int k=>rfl
    | bool=>rfl
    | str=>rfl
   ·trivial
 | dead=>trivial
 | pn=>rfl
 | mn=>rfl
 | bc b=>rfl
 | nil=>trivial
 | own o=>trivial
 | loc o f=>trivial
 | mp o=>trivial
 | fn f c=>trivial
 | ip t=>cases h
 | vp o=>trivial
theorem sj:∀ (ss:List LSh) (ds:List Dyn),ss.all LSh.fK = true → ∀ x ∈ (pX ss ds).1,flL x.un
 | [],_,_,x,hx=>by cases hx
 | s :: ss,ds,h,x,hx=>by
  rw[List.all_cons,Bool.and_eq_true] at h
  have e:(pX (s :: ss) ds).1 = (mkL s ds).1 :: (pX ss (mkL s ds).2).1:=rfl
  rw[e] at hx
  rcases List.mem_cons.1 hx with rfl | hx
  ·exact AT h.1
  ·exact sj ss _ h.2 x hx
theorem yS {t:Ty} (h:t.fK = true) (x:t.den):∀ y ∈ (dH t x).map TL.un,flL y:=by
 rw[gO]
 intro y hy
 obtain⟨p,hp,rfl⟩:=List.mem_map.1 hy
 exact jg t x h p hp
theorem Hg {s:CSh} {ds:List Dyn} (h:s.leaves.all LSh.fK = true):∀ x ∈ (mkC s ds).1.un.leaves,flL x:=by
 cases s with
 | v s =>
  intro x hx
  have e:(mkC (.v s) ds).1 = .v (mkL s ds).1:=rfl
  rw[e] at hx
  simp only[TC.un,Cmp.leaves,List.mem_singleton] at hx
  subst hx
  exact AT (by simpa [CSh.leaves] using h)
 | g ss =>
  intro x hx
  have e:(mkC (.g ss) ds).1 = .g (pX ss ds).1:=rfl
  rw[e] at hx
  simp only[TC.un,Cmp.leaves] at hx
  obtain⟨y,hy,rfl⟩:=List.mem_map.1 hx
  exact sj ss ds h y hy
 | a t =>
  have hf:t.fK = true:=by simpa [CSh.leaves,LSh.fK] using h
  cases ds with
  | nil=>intro x hx; cases hx
  | cons d ds =>
   intro x hx
   unfold mkC at hx
   dsimp only at hx
   split at hx
   ·exact yS hf _ x hx
   ·cases hx
theorem xB:∀ (ss:List CSh) (ds:List Dyn),ss.all (fun x=>x.leaves.all LSh.fK) = true → ∀ c ∈ (jO ss ds).1,∀ x ∈ c.un.leaves,flL x
 | [],_,_,x,hx=>by cases hx
 | s :: ss,ds,h,c,hc=>by
  rw[List.all_cons,Bool.and_eq_true] at h
  have e:(jO (s :: ss) ds).1 = (mkC s ds).1 :: (jO ss (mkC s ds).2).1:=rfl
  rw[e] at hc
  rcases List.mem_cons.1 hc with rfl | hc
  ·exact Hg h.1
  ·exact xB ss _ h.2 c hc
theorem Hh {s:OSh} {ds:List Dyn} (h:s.fK = true):flH (mkO s ds).1.un:=by
 cases s with
 | gone=>trivial
 | box t xs =>
  intro x hx
  obtain⟨y,hy,rfl⟩:=List.mem_map.1 hx
  exact sj xs ds h y hy
 | arr e t =>
  cases ds with
  | nil=>trivial
  | cons d ds =>
   intro row hr p hp
   obtain⟨y,_,rfl⟩:=List.mem_map.1 hr
   exact jg t y h p hp
 | ix k agg t=>cases ds <;> trivial
 | fi agg t =>
  cases ds with
  | nil=>trivial
  | cons d ds =>
   intro y hy p hp
   obtain⟨q,_,rfl⟩:=List.mem_map.1 hy
   exact jg t _ h p hp
 | iy k agg t=>cases ds <;> trivial
 | jN kd e t =>
  cases ds with
  | nil=>trivial
  | cons d ds =>
   intro y hy row hr p hp
   obtain⟨q,_,rfl⟩:=List.mem_map.1 hy
   obtain⟨z,_,rfl⟩:=List.mem_map.1 hr
   exact jg t z h p hp
theorem sk:∀ (ss:List (Nat × OSh)) (ds:List Dyn),ss.all (fun x=>x.2.fK) = true → ∀ x ∈ dN (lT ss ds).1,flH x.2
 | [],_,_,x,hx=>by cases hx
 | s :: ss,ds,h,x,hx=>by
  rw[List.all_cons,Bool.and_eq_true] at h
  have e:(lT (s :: ss) ds).1 = (s.1,(mkO s.2 ds).1) :: (lT ss (mkO s.2 ds).2).1:=rfl
  rw[e] at hx
  rcases List.mem_cons.1 hx with rfl | hx
  ·exact Hh h.1
  ·exact sk ss _ h.2 x hx
section
variable {ρ:Type} {fx cur:TSt} {r:ρ}
theorem vB:∀ {ss:List SSh} {xs:List TSl} {f:FS} {k:KF ρ},tC fx cur ss xs f k = some r → Fits (β:=Unit) (γ:=Unit) (tj ss) (fun σ hps ys=>sI σ (un2 fx cur) hps (xs.map TSl.un) (ys.map TSl.un)) f k r
 | [],[],f,k,h=>⟨f,[],[],h,FS.le_refl f,fun _=>rfl,fun _ _ _ _ _=>trivial⟩
 | s :: ss,x :: xs,f,k,h=>by
  unfold tC at h
  obtain⟨f1,ds,y,h1,l1,m1,r1⟩:=DM h
  obtain⟨f2,es,ys,h2,l2,m2,r2⟩:=vB h1
  refine⟨f2,ds ++ es,y :: ys,h2,FS.le_trans l1 l2,fun gs=>?_,fun σ hps F hF hf=>⟨r1 σ hps F (FS.le_trans l2 hF) hf,r2 σ hps F hF hf⟩⟩
  show (match u7 s (ds ++ es ++ gs) with | (y,ds)=>match tj ss ds with | (l,ds)=>(y :: l,ds)) = _
  rw[List.append_assoc,m1]
  dsimp only
  rw[m2]
 | [],_ :: _,f,k,h=>by cases h
 | _ :: _,[],f,k,h=>by cases h
end
end Go.Lad
