import Derived.Test.YtcmibmohdnbhgaaGreatDoorD1
namespace Go.Lad
set_option linter.unusedVariables false
set_option linter.unusedSimpArgs false
open Go.RowKit
def Tup:List Ty → Type
 | []=>Unit
 | [t]=>t.den
 | t :: u :: r=>t.den × Tup (u :: r)
noncomputable def tyDec:(t:Ty) → DecidableEq t.den
 | .any=>anyDec
 | .int _=>inferInstanceAs (DecidableEq Int)
 | .bool=>inferInstanceAs (DecidableEq Bool)
 | .str=>inferInstanceAs (DecidableEq (List UInt8))
 | .sl e=>@instDecidableEqList e.den (tyDec e)
 | .pair a b=>@instDecidableEqProd a.den b.den (tyDec a) (tyDec b)
 | .slu i=>fun a b=>Classical.propDecidable (a = b)
 | .map _ e=>@instDecidableEqList (Int × List e.den) (@instDecidableEqProd Int (List e.den) inferInstance (@instDecidableEqList e.den (tyDec e)))
noncomputable def tupDec:(ps:List Ty) → DecidableEq (Tup ps)
 | []=>inferInstanceAs (DecidableEq Unit)
 | [t]=>tyDec t
 | t :: u :: r=>@instDecidableEqProd t.den (Tup (u :: r)) (tyDec t) (tupDec (u :: r))
def ofTup:(ps:List Ty) → Tup ps → List Dyn
 | [],_=>[]
 | [t],x=>[⟨t,x⟩]
 | t :: u :: r,x=>⟨t,x.1⟩ :: ofTup (u :: r) x.2
def toTup {ρ:Type}:(ps:List Ty) → List Dyn → (Tup ps → Option ρ) → Option ρ
 | [],[],k=>k ()
 | [t],[d],k=>asTy d.t t d.x k
 | t :: u :: r,d :: ds,k=>asTy d.t t d.x fun x=>toTup (u :: r) ds fun y=>k (x,y)
 | _,_,_=>none
inductive LSh where
 | dead
 | d (t:Ty)
 | nil
 | own (o:Nat)
 | loc (o off:Nat)
 | mp (o:Nat)
 | fn (f:FuncId) (caps:List Nat)
 | pn
 | mn
 | bc (b:Bool)
 | ip (t:Ty)
 | vp (o:Nat)
inductive CSh where
 | v (x:LSh)
 | g (xs:List LSh)
 | a (t:Ty)
inductive SSh where
 | dead
 | c (x:CSh)
 | t (l:List CSh)
inductive OSh where
 | gone
 | box (t:TypeId) (xs:List LSh)
 | arr (e:TypeId) (t:Ty)
 | mapI (k:IntKind) (agg:Bool) (t:Ty)
 | mapS (agg:Bool) (t:Ty)
 | mapQ (k:IntKind) (agg:Bool) (t:Ty)
 | mapL (k:IntKind) (e:TypeId) (t:Ty)
structure Shp where
 tm:List (Nat × SSh)
 hp:List (Nat × OSh)
 ps:List Ty
def mkL:LSh → List Dyn → TL × List Dyn
 | .dead,ds=>(.dead,ds)
 | .d t,d :: r=>match Ty.same d.t t with | some h=>(.v t (castTy h.down d.x),r) | none=>(.dead,r)
 | .d _,[]=>(.dead,[])
 | .nil,ds=>(.nil,ds)
 | .own o,ds=>(.own o,ds)
 | .loc o off,ds=>(.loc o off,ds)
 | .mp o,ds=>(.mp o,ds)
 | .fn f caps,ds=>(.fn f caps,ds)
 | .pn,ds=>(.oth (.pointer none),ds)
 | .mn,ds=>(.oth (.map none),ds)
 | .bc b,ds=>(.v .bool b,ds)
 | .ip t,d :: r=>match Ty.same d.t t with | some h=>(.ip t (castTy h.down d.x) 0,r) | none=>(.dead,r)
 | .ip _,[]=>(.dead,[])
 | .vp o,ds=>(.el o 0 0 1,ds)
def mkLs:List LSh → List Dyn → List TL × List Dyn
 | [],ds=>([],ds)
 | x :: r,ds=>match mkL x ds with | (y,ds)=>match mkLs r ds with | (l,ds)=>(y :: l,ds)
def mkC:CSh → List Dyn → TC × List Dyn
 | .v x,ds=>match mkL x ds with | (y,ds)=>(.v y,ds)
 | .g xs,ds=>match mkLs xs ds with | (l,ds)=>(.g l,ds)
 | .a t,d :: r=>match Ty.same d.t t with | some h=>(.g (leavesT t (castTy h.down d.x)),r) | none=>(.g [],r)
 | .a _,[]=>(.g [],[])
def mkCs:List CSh → List Dyn → List TC × List Dyn
 | [],ds=>([],ds)
 | x :: r,ds=>match mkC x ds with | (y,ds)=>match mkCs r ds with | (l,ds)=>(y :: l,ds)
def mkS1:SSh → List Dyn → TSl × List Dyn
 | .dead,ds=>(.dead,ds)
 | .c x,ds=>match mkC x ds with | (y,ds)=>(.c y,ds)
 | .t l,ds=>match mkCs l ds with | (l,ds)=>(.t l,ds)
def mkTm:List (Nat × SSh) → List Dyn → List (Nat × TSl) × List Dyn
 | [],ds=>([],ds)
 | x :: r,ds=>match mkS1 x.2 ds with | (y,ds)=>match mkTm r ds with | (l,ds)=>((x.1,y) :: l,ds)
def listAs (t:Ty) (d:Dyn):List t.den:=match Ty.same d.t (.sl t) with | some h=>castTy (b := .sl t) h.down d.x | none=>[]
def mapAs (k:IntKind) (t:Ty) (d:Dyn):List (Int × List t.den):=match Ty.same d.t (.map k t) with | some h=>castTy (b := .map k t) h.down d.x | none=>[]
def mkO:OSh → List Dyn → TObj × List Dyn
 | .gone,ds=>(.gone,ds)
 | .box t xs,ds=>match mkLs xs ds with | (l,ds)=>(.box t l,ds)
 | .arr e t,d :: ds=>(.arr e t (listAs t d),ds)
 | .mapI k agg t,d :: ds=>(.mapI k agg t (listAs (.pair (.int k) t) d),ds)
 | .mapS agg t,d :: ds=>(.mapS agg t (listAs (.pair .str t) d),ds)
 | .mapQ k agg t,d :: ds=>(.mapQ k agg t (listAs (.pair (.pair (.int k) (.int .i64)) t) d),ds)
 | .mapL k e t,d :: ds=>(.mapL k e t (mapAs k t d) none,ds)
 | .arr e t,[]=>(.gone,[])
 | .mapL k e t,[]=>(.gone,[])
 | .mapI k agg t,[]=>(.gone,[])
 | .mapS agg t,[]=>(.gone,[])
 | .mapQ k agg t,[]=>(.gone,[])
def mkHp:List (Nat × OSh) → List Dyn → List (Nat × TObj) × List Dyn
 | [],ds=>([],ds)
 | x :: r,ds=>match mkO x.2 ds with | (y,ds)=>match mkHp r ds with | (l,ds)=>((x.1,y) :: l,ds)
def Shp.mk' (σ:Shp) (ds:List Dyn):TSt:=match mkTm σ.tm ds with | (tm,ds)=>match mkHp σ.hp ds with | (hp,_)=>⟨tm,hp⟩
def Shp.at (σ:Shp) (x:Tup σ.ps):TSt:=σ.mk' (ofTup σ.ps x)
structure FS where
 m:List (Nat × Nat)
 nils:List Nat
 frz:List Nat
def hasN:List Nat → Nat → Bool
 | [],_=>false
 | x :: r,k=>cond (Nat.beq k x) true (hasN r k)
def hasP:List (Nat × Nat) → Nat → Nat → Bool
 | [],_,_=>false
 | x :: r,a,b=>cond (Nat.beq a x.1 && Nat.beq b x.2) true (hasP r a b)
def FS.ren (f:FS) (o o2:Nat):FS:=cond (hasP f.m o o2) f { f with m:=(o,o2) :: f.m }
abbrev KF (ρ:Type):=FS → List Dyn → Option ρ
def renAll:List Nat → List Nat → FS → Option FS
 | [],[],f=>some f
 | x :: xs,y :: ys,f=>renAll xs ys (f.ren x y)
 | _,_,_=>none
section
variable {ρ:Type} (fx cur:TSt)
def leafG (t:Ty) (l:TL) (f:FS) (k:t.den → FS → Option ρ):Option ρ :=
 match l with
 | .v t' x=>asTyU t' t x fun x=>k x f
 | .nil=>nilT t fun x=>k x f
 | .own o=>match obT fx cur o with
  | some (.arr _ t' l)=>asTyU (.sl t') t l fun x=>k x { f with frz:=o :: f.frz }
  | _=>none
 | .mp o=>match obT fx cur o with
  | some (.mapL kd _ t' m none)=>asTy (.map kd t') t m fun x=>k x { f with frz:=o :: f.frz }
  | _=>none
 | _=>none
def packG:(t:Ty) → List TL → FS → (t.den → FS → List TL → Option ρ) → Option ρ
 | .pair a b,ls,f,k=>packG a ls f fun x f ls=>packG b ls f fun y f ls=>k (x,y) f ls
 | t,l :: ls,f,k=>leafG fx cur t l f fun x f=>k x f ls
 | _,[],_,_=>none
def litG (te:Ty):List TL → FS → (List te.den → FS → Option ρ) → Option ρ
 | [],f,k=>k [] f
 | x :: r,f,k=>leafG fx cur te x f fun x f=>litG te r f fun l f=>k (x :: l) f
def fitLit (t:Ty) (o:Nat) (cs:List TL) (f:FS) (k:KF ρ):Option ρ :=
 match t with
 | .sl te=>cond (isLeafT te) (litG fx cur te cs f fun l f=>k { f with frz:=o :: f.frz } [⟨.sl te,l⟩]) none
 | _=>none
def bEq:Bool → Bool → Bool
 | true,c=>c
 | false,c=>!c
def fitL (sh:LSh) (x:TL) (f:FS) (k:KF ρ):Option ρ :=
 match sh with
 | .dead=>k f []
 | .d t=>match x with
  | .v t' x=>asTy t' t x fun x=>k f [⟨t,x⟩]
  | .nil=>match t with | .sl e=>k f [⟨.sl e,([]:List e.den)⟩] | _=>none
  | .tl t' l=>asTy (.sl t') t l fun x=>k f [⟨t,x⟩]
  | .own o=>match obT fx cur o with | some (.arr _ t' l)=>asTy (.sl t') t l fun x=>k { f with frz:=o :: f.frz } [⟨t,x⟩] | some (.lit _ cs)=>fitLit fx cur t o cs f k | _=>none
  | .sv o a b z=>match obT fx cur o with | some (.arr _ t' l)=>cond (Nat.beq z t'.cells && Nat.ble 1 z) ((cut l a b).bind fun l=>asTy (.sl t') t l fun x=>k { f with frz:=o :: f.frz } [⟨t,x⟩]) none | _=>none
  | _=>none
 | .nil=>match x with | .nil=>k f [] | _=>none
 | .own o2=>match x with | .own o=>k (f.ren o o2) [] | .nil=>k { f with nils:=o2 :: f.nils } [] | _=>none
 | .loc o2 off2=>match x with | .loc o off=>cond (Nat.beq off off2) (k (f.ren o o2) []) none | _=>none
 | .mp o2=>match x with | .mp o=>k (f.ren o o2) [] | _=>none
 | .fn g2 caps2=>match x with | .fn g caps=>cond (Nat.beq g g2) (match renAll caps caps2 f with | some f=>k f [] | none=>none) none | _=>none
 | .pn=>match x with | .oth (.pointer none)=>k f [] | _=>none
 | .mn=>match x with | .oth (.map none)=>k f [] | _=>none
 | .bc b=>match x with | .v .bool c=>cond (bEq b c) (k f []) none | _=>none
 | .ip t=>match x with
  | .loc o off=>cond (Nat.beq off 0) (match obT fx cur o with
   | some (.box _ xs)=>packG fx cur t xs f fun x f rest=>match rest with | []=>k { f with frz:=o :: f.frz } [⟨t,x⟩] | _=>none
   | _=>none) none
  | .ip t' x off=>cond (Nat.beq off 0) (asTy t' t x fun x=>k f [⟨t,x⟩]) none
  | _=>none
 | .vp o2=>match x with | .el o n 0 1=>cond (eqZ n 0) (k (f.ren o o2) []) none | _=>none
def fitLs:List LSh → List TL → FS → KF ρ → Option ρ
 | [],[],f,k=>k f []
 | s :: ss,x :: xs,f,k=>fitL fx cur s x f fun f ds=>fitLs ss xs f fun f es=>k f (ds ++ es)
 | _,_,_,_=>none
def fitC:CSh → TC → FS → KF ρ → Option ρ
 | .a t,.g xs,f,k=>packG fx cur t xs f fun x f rest=>match rest with | []=>k f [⟨t,x⟩] | _=>none
 | .v s,.v x,f,k=>fitL fx cur s x f k
 | .g ss,.g xs,f,k=>fitLs fx cur ss xs f k
 | _,_,_,_=>none
def fitCs:List CSh → List TC → FS → KF ρ → Option ρ
 | [],[],f,k=>k f []
 | s :: ss,x :: xs,f,k=>fitC fx cur s x f fun f ds=>fitCs ss xs f fun f es=>k f (ds ++ es)
 | _,_,_,_=>none
def fitS (s:SSh) (x:TSl) (f:FS) (k:KF ρ):Option ρ :=
 match s with
 | .dead=>k f []
 | .c s=>match x with | .c x=>fitC fx cur s x f k | _=>none
 | .t ss=>match x with | .t xs=>fitCs fx cur ss xs f k | _=>none
def fitTm:List (Nat × SSh) → FS → KF ρ → Option ρ
 | [],f,k=>k f []
 | s :: ss,f,k=>fitS fx cur s.2 ((look2 cur.tm fx.tm s.1).getD .dead) f fun f ds=>fitTm ss f fun f es=>k f (ds ++ es)
def lookR:List (Nat × Nat) → Nat → Option Nat
 | [],_=>none
 | x :: r,k=>cond (Nat.beq k x.2) (some x.1) (lookR r k)
def fitO (s:OSh) (o:Option TObj) (f:FS) (k:KF ρ):Option ρ :=
 match s with
 | .gone=>match o with | some _=>k f [] | none=>none
 | .box t ss=>match o with | some (.box t' xs)=>cond (Nat.beq t t') (fitLs fx cur ss xs f k) none | _=>none
 | .arr e t=>match o with | some (.arr e' t' l)=>cond (Nat.beq e e') (asTy (.sl t') (.sl t) l fun l=>k f [⟨.sl t,l⟩]) none | _=>none
 | .mapI kd agg t=>match o with | some (.mapI kd' agg' t' m)=>cond (agg == agg') (asTy (.sl (.pair (.int kd') t')) (.sl (.pair (.int kd) t)) m fun l=>k f [⟨.sl (.pair (.int kd) t),l⟩]) none | _=>none
 | .mapS agg t=>match o with | some (.mapS agg' t' m)=>cond (agg == agg') (asTy (.sl (.pair .str t')) (.sl (.pair .str t)) m fun l=>k f [⟨.sl (.pair .str t),l⟩]) none | _=>none
 | .mapL kd e t=>match o with | some (.mapL kd' e' t' m none)=>cond (Nat.beq e e') (asTy (.map kd' t') (.map kd t) m fun l=>k f [⟨.map kd t,l⟩]) none | _=>none
 | .mapQ kd agg t=>match o with | some (.mapQ kd' agg' t' m)=>cond (agg == agg') (asTy (.sl (.pair (.pair (.int kd') (.int .i64)) t')) (.sl (.pair (.pair (.int kd) (.int .i64)) t)) m fun l=>k f [⟨.sl (.pair (.pair (.int kd) (.int .i64)) t),l⟩]) none | _=>none
def fitHp:List (Nat × OSh) → FS → KF ρ → Option ρ
 | [],f,k=>k f []
 | s :: ss,f,k=>match lookR f.m s.1 with
  | some o=>fitO fx cur s.2 (obT fx cur o) f fun f ds=>fitHp ss f fun f es=>k f (ds ++ es)
  | none=>match s.2 with
   | .arr e t=>fitHp ss { f with nils:=s.1 :: f.nils } fun f es=>k f (⟨.sl t,([]:List t.den)⟩ :: es)
   | .gone=>fitHp ss f k
   | _=>none
end
def nodupN:List Nat → Bool
 | []=>true
 | x :: r=>!hasN r x && nodupN r
def keysN {α:Type} (l:List (Nat × α)):List Nat:=l.map (·.1)
def fstN (l:List (Nat × Nat)):List Nat:=l.map (·.1)
def sndN (l:List (Nat × Nat)):List Nat:=l.map (·.2)
def FS.ok (f:FS) (hk:List Nat) (pin:Bool):Bool :=
 nodupN (fstN f.m) && nodupN (sndN f.m) && f.m.all (fun x=>hasN hk x.2 && (!pin || Nat.ble (x.2 + 1) 1000000 || Nat.beq x.1 x.2)) && f.frz.all (fun o=>!hasN (fstN f.m) o) && f.nils.all (fun o=>!hasN (sndN f.m) o && hasN hk o && Nat.ble (o + 1) 1000000)
def pinsO:List (Nat × OSh) → List (Nat × Nat)
 | []=>[]
 | x :: r=>match x.2 with
  | .gone=>pinsO r
  | _=>cond (Nat.ble 1000000 x.1) ((x.1,x.1) :: pinsO r) (pinsO r)
def fitAll {ρ:Type} (fx cur:TSt) (σ:Shp) (fx2:TSt) (k:Tup σ.ps → Option ρ):Option ρ :=
 fitTm fx cur σ.tm ⟨(fx2.hp.map fun x=>(x.1,x.1)) ++ pinsO σ.hp,[],[]⟩ fun f ds=>fitHp fx cur σ.hp f fun f es =>
  cond (f.ok (keysN σ.hp ++ keysN fx2.hp) true) (toTup σ.ps (ds ++ es) k) none
def TSl.isDead:TSl → Bool
 | .dead=>true
 | _=>false
def keysOK (fx cur:TSt) (σ:Shp):Bool :=
 cur.tm.all (fun x=>hasN (keysN σ.tm) x.1 || (match look fx.tm x.1 with | some y=>y.isDead | none=>true)) && cur.hp.all (fun x=>hasN (keysN σ.hp) x.1 || (match look fx.hp x.1 with | some _=>false | none=>true))
def TL.idsT:TL → List Nat
 | .loc o _ | .own o | .el o _ _ _ | .mp o | .sv o _ _ _=>[o]
 | .fn _ caps=>caps
 | _=>[]
def TSl.idsT:TSl → List Nat
 | .dead=>[]
 | .c x=>x.leaves.flatMap TL.idsT
 | .t l=>l.flatMap fun c=>c.leaves.flatMap TL.idsT
def TObj.idsT:TObj → List Nat
 | .box _ cs=>cs.flatMap TL.idsT
 | .lit _ cs=>cs.flatMap TL.idsT
 | .mapE _ _ _ _ _ d=>[d]
 | _=>[]
def closedT (fx:TSt):Bool:=fx.tm.all (fun x=>x.2.idsT.all (hasN (keysN fx.hp))) && fx.hp.all (fun x=>x.2.idsT.all (hasN (keysN fx.hp)))
def keptOf (cur:TSt) (σ:Shp) (kt kh:List Nat):TSt :=
 ⟨((cur.tm.filter fun x=>!hasN (keysN σ.tm) x.1).map fun x=>(x.1,cond (hasN kt x.1) x.2 .dead)) ++ (keysN σ.tm).map fun k=>(k,.dead),cur.hp.filter fun x=>!hasN (keysN σ.hp) x.1 && hasN kh x.1⟩
def dedupA {α:Type}:List Nat → List (Nat × α) → List (Nat × α)
 | _,[]=>[]
 | seen,x :: r=>cond (hasN seen x.1) (dedupA seen r) (x :: dedupA (x.1 :: seen) r)
def fxOf (fx cur kept:TSt) (σ:Shp):TSt :=
 ⟨dedupA [] (kept.tm ++ fx.tm.filter fun x=>!hasN (keysN cur.tm) x.1 && !hasN (keysN σ.tm) x.1),dedupA [] (kept.hp ++ fx.hp.filter fun x=>!hasN (keysN cur.hp) x.1 && !hasN (keysN σ.hp) x.1)⟩
def ownOf (fx cur:TSt) (σ:Shp) (kt kh:List Nat):TSt :=
 ⟨(cur.tm.filter fun x=>hasN (keysN σ.tm) x.1 || !hasN kt x.1) ++ fx.tm.filter fun x=>hasN (keysN σ.tm) x.1 && !hasN (keysN cur.tm) x.1,cur.hp.filter fun x=>hasN (keysN σ.hp) x.1 || !hasN kh x.1⟩
def dropOK (fx cur kept:TSt) (σ:Shp):Bool :=
 cur.hp.all (fun x=>hasN (keysN σ.hp) x.1 || hasN (keysN kept.hp) x.1 || (match look fx.hp x.1 with | some _=>false | none=>true)) && σ.hp.all fun x=>match look fx.hp x.1 with | some _=>false | none=>true
inductive RSh where
 | one (c:CSh)
 | tup (l:List CSh)
structure Con where
 f:FuncId
 ain:List SSh
 kin:List (Nat × OSh)
 hin:List (Nat × OSh)
 ps:List Ty
 out:RSh
 hout:List (Nat × OSh)
 qs:List Ty
 fn:Tup ps → Option (Tup qs)
def rnT (ρ:List (Nat × Nat)) (o:Nat):Nat:=match look ρ o with | some x=>x | none=>o
def rnTL (ρ:List (Nat × Nat)):TL → TL
 | .loc o f=>.loc (rnT ρ o) f
 | .own o=>.own (rnT ρ o)
 | .el o i f z=>.el (rnT ρ o) i f z
 | .mp o=>.mp (rnT ρ o)
 | .fn f caps=>.fn f (caps.map (rnT ρ))
 | .sv o a b z=>.sv (rnT ρ o) a b z
 | x=>x
def rnTC (ρ:List (Nat × Nat)):TC → TC
 | .v x=>.v (rnTL ρ x)
 | .g xs=>.g (xs.map (rnTL ρ))
def rnTO (ρ:List (Nat × Nat)):TObj → TObj
 | .box t cs=>.box t (cs.map (rnTL ρ))
 | .lit t cs=>.lit t (cs.map (rnTL ρ))
 | .mapE _ _ _ _ _ _=>.gone
 | h=>h
def LSh.flatB:LSh → Bool
 | .d t=>t.flatB
 | .ip _=>false
 | _=>true
def CSh.leaves:CSh → List LSh
 | CSh.v x=>[x]
 | CSh.g xs=>xs
 | CSh.a t=>[.d t]
def RSh.comps:RSh → List CSh
 | .one c=>[c]
 | .tup l=>l
def OSh.flatB:OSh → Bool
 | .box _ xs=>xs.all LSh.flatB
 | .arr _ t=>t.flatB
 | .mapL _ _ t=>t.flatB
 | .mapS _ t=>t.flatB
 | _=>true
def LSh.noIp:LSh → Bool
 | .ip _=>false
 | _=>true
def SSh.noIp:SSh → Bool
 | .dead=>true
 | .c x=>x.leaves.all LSh.noIp
 | .t l=>l.all fun c=>c.leaves.all LSh.noIp
def Con.flatB (c:Con):Bool:=c.out.comps.all (fun x=>x.leaves.all LSh.flatB) && c.hout.all (fun x=>x.2.flatB) && c.kin.all fun x=>x.2.flatB
def newsOf (d:Nat) (m:List (Nat × Nat)):List (Nat × OSh) → List (Nat × Nat)
 | []=>[]
 | x :: r=>cond (hasN (sndN m) x.1) (newsOf d m r) ((x.1,d + 10000 * x.1) :: newsOf d m r)
section
variable {ρ:Type} (fx cur:TSt)
def fitArgs:List SSh → List TSl → FS → KF ρ → Option ρ
 | [],[],f,k=>k f []
 | s :: ss,x :: xs,f,k=>fitS fx cur s x f fun f ds=>fitArgs ss xs f fun f es=>k f (ds ++ es)
 | _,_,_,_=>none
def exactL:List LSh → List TL → Bool
 | [],[]=>true
 | .d _ :: ss,.v _ _ :: xs=>exactL ss xs
 | .own _ :: ss,.own _ :: xs=>exactL ss xs
 | .loc _ _ :: ss,.loc _ _ :: xs=>exactL ss xs
 | .mp _ :: ss,.mp _ :: xs=>exactL ss xs
 | .fn _ _ :: ss,.fn _ _ :: xs=>exactL ss xs
 | .nil :: ss,.nil :: xs=>exactL ss xs
 | .pn :: ss,.oth _ :: xs=>exactL ss xs
 | .mn :: ss,.oth _ :: xs=>exactL ss xs
 | .vp _ :: ss,.el _ _ _ _ :: xs=>exactL ss xs
 | _,_=>false
def exactO (s:OSh) (o:Option TObj):Bool :=
 match s,o with
 | .box _ ss,some (.box _ xs)=>exactL ss xs
 | .arr _ _,some (.arr _ _ _)=>true
 | .mapI _ _ _,some (.mapI _ _ _ _)=>true
 | .mapS _ _,some (.mapS _ _ _)=>true
 | .mapQ _ _ _,some (.mapQ _ _ _ _)=>true
 | .mapL _ _ _,some (.mapL _ _ _ _ _)=>true
 | _,_=>false
def exactHp (m:List (Nat × Nat)):List (Nat × OSh) → Bool
 | []=>true
 | s :: ss=>(match lookR m s.1 with | some o=>exactO s.2 (obT fx cur o) | none=>false) && exactHp m ss
def resSlot (r:RSh) (ρ:List (Nat × Nat)) (cs:List TC):TSl :=
 match r,cs with
 | .one _,[c]=>.c (rnTC ρ c)
 | _,cs=>.t (cs.map (rnTC ρ))
def callWith (con:Con) (d:Nat) (args:List TSl) (k:KE ρ):Option ρ :=
 fitArgs fx cur con.ain args ⟨[],[],[]⟩ fun f ds=>fitHp fx cur con.kin f fun f es=>fitHp fx cur con.hin f fun f gs =>
  cond (f.ok (keysN con.kin ++ keysN con.hin) false && (match f.nils with | []=>true | _=>false) && f.m.all (fun x=>Nat.ble 1000000 x.2 && hasN (keysN con.hout ++ keysN con.kin) x.2 && (match obT fx cur x.1 with | some _=>true | none=>false)) && (match f.frz with | []=>true | _=>con.flatB) && nodupN (keysN con.hout ++ keysN con.kin) && con.hout.all (fun x=>hasN (sndN f.m) x.1 || (Nat.ble (x.1 + 1) 50 && freeT fx cur (d + 10000 * x.1))) && exactHp fx cur f.m con.kin)
   (toTup con.ps (ds ++ (es ++ gs)) fun x=>(con.fn x).bind fun r=>match mkCs con.out.comps (ofTup con.qs r) with
    | (cs,ds)=>match mkHp con.hout ds with
     | (hs,_)=>k (resSlot con.out (f.m.map (fun x=>(x.2,x.1)) ++ newsOf d f.m con.hout) cs) (hs.map fun x=>(rnT (f.m.map (fun x=>(x.2,x.1)) ++ newsOf d f.m con.hout) x.1,rnTO (f.m.map (fun x=>(x.2,x.1)) ++ newsOf d f.m con.hout) x.2))) none
end
def conOf (Φ:List Con) (sel:List (Nat × Nat)) (f:FuncId) (d:Nat):Option Con :=
 match look sel d with
 | some i=>match Φ[i]? with | some c=>cond (Nat.beq c.f f) (some c) none | none=>none
 | none=>Φ.find? fun c=>Nat.beq c.f f
structure Iter where
 f:FuncId
 cs:List CSh
 ps:List Ty
 fn:List TObj → Option (List (Tup ps))
 at_:List TObj → Nat → List TObj
def Iter.row (it:Iter) (x:Tup it.ps):List TC:=(mkCs it.cs (ofTup it.ps x)).1
def putCaps (os:List Nat) (ol:List TObj) (l:List (Nat × TObj)):List (Nat × TObj):=l.map fun x=>(x.1,match look (os.zip ol) x.1 with | some h=>h | none=>x.2)
def curK (cur:TSt) (os:List Nat) (ol:List TObj):TSt:=⟨cur.tm,putCaps os ol cur.hp⟩
def capObjs (l:List (Nat × TObj)):List Nat → Option (List TObj)
 | []=>some []
 | o :: r=>match look l o with
  | some h=>match capObjs l r with | some t=>some (h :: t) | none=>none
  | none=>none
def foldR {α σ β:Type} (f:Nat → α → σ → Option (σ ⊕ β)):Nat → List α → σ → Option (σ ⊕ β)
 | _,[],s=>some (.inl s)
 | k,x :: r,s=>(f k x s).bind fun y=>match y with
  | .inl s'=>foldR f (k + 1) r s'
  | .inr b=>some (.inr b)
def fxK (fx cur:TSt) (os:List Nat) (ol:List TObj) (σ:Shp) (kt kh:List Nat):TSt:=fxOf fx (curK cur os ol) (keptOf (curK cur os ol) σ kt kh) σ
def isLocS:SSh → Bool
 | .c (.v (.loc _ _))=>true
 | _=>false
def rangeOK (fx cur:TSt) (σ:Shp) (kt kh:List Nat) (os:List Nat) (tg:Nat) (ts:List Nat) (n m:Nat):Bool :=
 closedT (fxOf fx cur (keptOf cur σ kt kh) σ) && dropOK fx cur (keptOf cur σ kt kh) σ && (σ.tm.all (fun x=>isLocS x.2 && !hasN ts x.1) && !hasN (keysN σ.tm) tg) && Nat.beq n m && os.all (fun o=>hasN (keysN (keptOf cur σ kt kh).hp) o) && nodupN os &&
  (fxOf fx cur (keptOf cur σ kt kh) σ).tm.all (fun x=>!hasN ts x.1 || x.2.isDead)
structure Env where
 P:Program
 H:List (Nat × Ty)
 Φ:List Con
 sel:List (Nat × Nat)
 js:List Nat
 hs:List Nat
 fz:List Nat
 zs:List Nat
 ns:List Nat
 bs:List Nat
 its:List Iter:=[]
 hands:List (TSt → TSt → Option TSt):=[]
def capsT:List TSl → Option (List Nat)
 | []=>some []
 | .c (.v (.loc o 0)) :: r=>match capsT r with | some l=>some (o :: l) | none=>none
 | _=>none
def atZs (E:Env) (d:Option Nat):Bool:=match d with | some d'=>hasN E.zs d' | none=>false
section
variable {ρ:Type} (E:Env) (fx:TSt)
def noLits (fx cur:TSt) (args:List TSl):Bool:=args.all fun x=>x.idsT.all fun i=>match obT fx cur i with | some (.lit _ _) | none=>false | _=>true
def orT {ρ:Type} (a b:Option ρ):Option ρ:=match a with | some r=>some r | none=>b
def sparesT (hs:List Nat) (d:Nat) (wr:List (Nat × TObj)):Bool:=hs.all fun e=>Nat.ble e 1999999 || wr.all fun x=>!Nat.beq (d + 1000000 * (x.1 + 2)) e
def callC (E:Env) (fx cur:TSt) (c:Call) (caps:List Nat) (f d:Nat) (con:Con) (k:KE ρ):Option ρ :=
 cond ((hasN E.hs d || noLits fx cur (cond (Nat.beq (f % 2) 0) (c.args.toList.map (evT fx cur constT) ++ caps.map fun o=>tL (.loc o 0)) ((caps.map fun o=>tL (.loc o 0)) ++ c.args.toList.map (evT fx cur constT)))) && (match con.kin,con.hin with | [],[]=>con.ain.all SSh.noIp || hasN E.hs d | _,_=>hasN E.hs d) && (match con.hin with | []=>true | _=>!hasN E.hs (d + 1000000))) (callWith fx cur con d (cond (Nat.beq (f % 2) 0) (c.args.toList.map (evT fx cur constT) ++ caps.map fun o=>tL (.loc o 0)) ((caps.map fun o=>tL (.loc o 0)) ++ c.args.toList.map (evT fx cur constT))) fun y wr=>cond (sparesT E.hs d wr) (k y wr) none) none
def opT0 (op:Op) (d:Option Nat) (cur:TSt) (k:KE ρ):Option ρ :=
 let ev:=evT fx cur constT
 match op with
 | .move x | .assign x=>tMove (ev x) k
 | .pick c x y=>tPick (ev c) (ev x) (ev y) k
 | .alloc t=>match atZs E d with | true=>tVec E.P E.H fx cur t d k | false=>tAlloc E.P fx cur t d k
 | .load t x=>tLoad E.P fx cur t (ev x) k
 | .store t x v=>tStore E.P fx cur t (ev x) (ev v) k
 | .nilCheck x=>tNil (ev x) k
 | .fieldAddr t x f=>tFieldAddr E.P t f (ev x) k
 | .field t x f=>tField E.P t f (ev x) k
 | .indexAddr t x i=>tIdx E.P fx cur t (ev x) (ev i) k
 | .index t x i=>tIndex E.P t (ev x) (ev i) k
 | .binOp b t x y _=>match atZs E d with
  | true=>match isEqB b with | true=>tNilO E.P fx cur b t (ev x) (ev y) k | false=>tAddW b (ev x) (ev y) k
  | false=>match ev x,ev y with
   | .c (.g xs),.c (.g ys)=>tEqS E.P b t xs ys k
   | X,Y=>match isShB b with | true=>tSh b X Y k | false=>tBin E.P b t X Y k
 | .unOp b _ x=>tUn b (ev x) k
 | .extract x i=>tExtract i (ev x) k
 | .build t ps=>tBuild E.P t (ps.toList.map (·.1)) (ps.toList.map fun p=>ev p.2) k
 | .buildSlice t n ps=>match d with
  | some d'=>cond (hasN E.zs d') (tBuildZ E.P E.H (hasN E.ns d') t n (ps.toList.map (·.1)) (ps.toList.map fun p=>ev p.2) k) (tBuildSl E.P E.H fx cur t n (ps.toList.map (·.1)) (some d') (ps.toList.map fun p=>ev p.2) k)
  | none=>none
 | .convert s t x=>match atZs E d with | true=>tCO E.P fx cur s t d (ev x) k | false=>tConv E.P fx cur s t (ev x) k
 | .slice t x none (some h) (some m)=>tSl3 E.P t (ev x) (ev h) (ev m) k
 | .slice t x l h none=>match atZs E d with | true=>tCutO E.P fx cur t l.isSome h.isSome d (ev x) ((l.toList ++ h.toList).map ev) k | false=>tSlice E.P fx cur t l.isSome h.isSome (ev x) ((l.toList ++ h.toList).map ev) k
 | .box t x=>tBox E.P fx cur t d (ev x) k
 | .makeMap t none=>match atZs E d with | true=>tMakeL E.P E.H fx cur t d k | false=>tMakeMap E.P E.H fx cur t d k
 | .lookup t m x ok=>match ok,atZs E d with | false,true=>tTake E.P fx cur t d (ev m) (ev x) k | _,_=>tLook E.P fx cur E.H t ok (ev m) (ev x) k
 | .mapUpdate t m x v=>tPut E.P fx cur t (ev m) (ev x) (ev v) k
 | .mapEntry t m x=>tMapEntry E.P fx cur t d (ev m) (ev x) k
 | .entryStore _ m st v=>tEntryStore fx cur (ev m) (ev st) (ev v) k
 | .makeFunc (.func f) first caps=>tMakeFunc f first.size (capsT ((first.toList ++ caps.toList).map ev)) k
 | .makeSlice t x y=>tMakeSlice E.P E.H fx cur t d (ev x) (ev y) k
 | .call c=>match c.callee with
  | .builtin .len=>match c.args.toList,c.argTypes.toList with | [x],[t]=>tLen E.P fx cur t (ev x) k | _,_=>none
  | .builtin .append=>match c.args.toList,c.argTypes.toList with | [x,y],[t,t']=>cond (Nat.beq t t') (match atZs E d with | true=>tAppZ E.P fx cur t (ev x) (ev y) k | false=>tAppT E.P E.H fx cur t d (ev x) (ev y) k) (match atZs E d with | true=>none | false=>tAppI E.P E.H fx cur t t' d (ev x) (ev y) k) | _,_=>none
  | .builtin .cap=>match c.args.toList,c.argTypes.toList with | [x],[t]=>tCap E.P t (ev x) k | _,_=>none
  | .builtin .copy=>match c.args.toList,c.argTypes.toList with | [x,y],[t,u]=>tCopy E.P fx cur t u (ev x) (ev y) k | _,_=>none
  | .builtin .clear=>match c.args.toList,c.argTypes.toList with | [x],[t]=>tClear E.P fx cur t (ev x) k | _,_=>none
  | .builtin .min=>match c.args.toList with | [x,y]=>tMinMax false (ev x) (ev y) k | _=>none
  | .builtin .max=>match c.args.toList with | [x,y]=>tMinMax true (ev x) (ev y) k | _=>none
  | .value g=>match ev g,d with
   | .c (.v (.fn f caps)),some d=>match conOf E.Φ E.sel (f / 2) d with
    | some con=>match look E.sel (d + 1000000) with
     | none=>callC E fx cur c caps f d con k
     | some _=>match conOf E.Φ E.sel (f / 2) (d + 1000000) with
      | some con2=>orT (callC E fx cur c caps f d con k) (callC E fx cur c caps f d con2 k)
      | none=>none
    | none=>none
   | _,_=>none
  | _=>none
 | _=>none
def noIds (os:List Operand) (cur:TSt):Bool:=os.all fun x=>match (evT fx cur constT x).idsT with | []=>true | _=>false
def boxIds (os:List Operand) (cur:TSt):Bool:=os.all fun x=>(evT fx cur constT x).idsT.all fun i=>match obT fx cur i with | some (.box _ _)=>true | _=>false
def arrIds (os:List Operand) (cur:TSt):Bool:=os.all fun x=>(evT fx cur constT x).idsT.all fun i=>match obT fx cur i with | some (.arr _ _ _)=>true | _=>false
def btIds (op:Op) (cur:TSt):Bool:=match adrOf op with
 | some a=>E.bs.all fun e=>cond (Nat.beq (e / 1000000) (a + 1)) ((evT fx cur constT (.tmp a)).idsT.all fun i=>cond (Nat.ble 500000 (e % 1000000)) (Nat.beq (i + 500000) (e % 1000000)) (match obT fx cur i with | some (.box t _)=>Nat.beq t (e % 1000000) | _=>false)) true
 | none=>true
def opT1 (op:Op) (d:Option Nat) (cur:TSt) (k:KE ρ):Option ρ :=
 match d with
 | some d=>cond (hasN E.ns d) (cond (noIds fx (Op.opds op) cur) (opT0 E fx op (some d) cur k) none) (cond (hasN E.bs d) (cond (cond (isSl op) (arrIds fx (Op.opds op) cur) (boxIds fx (Op.opds op) cur)) (opT0 E fx op (some d) cur k) none) (opT0 E fx op (some d) cur k))
 | none=>opT0 E fx op none cur k
def opT (op:Op) (d:Option Nat) (cur:TSt) (k:KE ρ):Option ρ:=cond (btIds E fx op cur) (opT1 E fx op d cur k) none
def putH:List (Nat × TObj) → List (Nat × TObj) → List (Nat × TObj)
 | l,[]=>l
 | l,x :: r=>putH (putA l x.1 x.2) r
def appT (cur:TSt) (d:Option Nat) (x:TSl) (wr:List (Nat × TObj)):TSt:=⟨match d with | some d=>putA cur.tm d x | none=>cur.tm,putH cur.hp wr⟩
def forceTm {ρ:Type}:List (Nat × TSl) → (List (Nat × TSl) → ρ) → ρ
 | [],k=>k []
 | x :: r,k=>match x with
  | (i,.dead)=>forceTm r fun r=>k ((i,.dead) :: r)
  | (i,.c (.v (.v t y)))=>forceTm r fun r=>k ((i,.c (.v (.v t y))) :: r)
  | (i,.c (.v y))=>forceTm r fun r=>k ((i,.c (.v y)) :: r)
  | (i,.c (.g y))=>forceTm r fun r=>k ((i,.c (.g y)) :: r)
  | (i,.t y)=>forceTm r fun r=>k ((i,.t y) :: r)
def leafF (cur:TSt) (t:Ty) (l:TL) (k:t.den → List Nat → Option ρ):Option ρ :=
 match l with
 | .v t' x=>asTyU t' t x fun x=>k x []
 | .nil=>nilT t fun x=>k x []
 | .own o=>match obT fx cur o with
  | some (.arr _ t' l)=>asTyU (.sl t') t l fun x=>k x [o]
  | _=>none
 | _=>none
def packF (cur:TSt):(t:Ty) → List TL → (t.den → List Nat → List TL → Option ρ) → Option ρ
 | .pair a b,ls,k=>packF cur a ls fun x os ls=>packF cur b ls fun y ps ls=>k (x,y) (os ++ ps) ls
 | t,l :: ls,k=>leafF fx cur t l fun x os=>k x os ls
 | _,[],_=>none
def frzAll (cur:TSt) (te:Ty):List Operand → (List (Nat × TSl) → List Nat → Option ρ) → Option ρ
 | [],k=>k [] []
 | .tmp t :: r,k=>match look2 cur.tm fx.tm t with
  | some (.c c)=>packF fx cur te c.leaves fun x os rest=>match rest with
   | []=>frzAll cur te r fun ns ps=>k ((t,.c (match c with | .g _=>.g (leavesT te x) | .v _=>.v (match leavesT te x with | y :: _=>y | []=>.dead))) :: ns) (os ++ ps)
   | _=>none
  | _=>none
 | _ :: r,k=>frzAll cur te r k
def offT (os:List Nat) (x:TSl):TSl:=cond (x.idsT.any (hasN os)) .dead x
def frzTm (cur:TSt) (ns:List (Nat × TSl)) (os:List Nat):List (Nat × TSl):=ns ++ cur.tm.map fun x=>(x.1,offT os x.2)
def frzHp (cur:TSt) (os:List Nat):List (Nat × TObj):=cur.hp.filter fun x=>!hasN os x.1
def ownLq:TL → Option Nat
 | .own o=>some o
 | _=>none
def ownArgs (cur:TSt):List Operand → List Nat
 | []=>[]
 | .tmp t :: r=>match look2 cur.tm fx.tm t with
  | some (.c (.v (.own o)))=>o :: ownArgs cur r
  | some (.c (.v (.loc o _)))=>(match obT fx cur o with | some (.box _ cs)=>cs.filterMap ownLq ++ ownArgs cur r | _=>ownArgs cur r)
  | _=>ownArgs cur r
 | _ :: r=>ownArgs cur r
def leafZq (cur:TSt) (os:List Nat):TL → TL
 | .own o=>cond (hasN os o) (match obT fx cur o with | some (.arr _ t l)=>.v (.sl t) l | _=>.own o) (.own o)
 | x=>x
def cmpZq (cur:TSt) (os:List Nat):TC → TC
 | .v x=>.v (leafZq fx cur os x)
 | .g xs=>.g (xs.map (leafZq fx cur os))
def slZq (cur:TSt) (os:List Nat):TSl → TSl
 | .c c=>.c (cmpZq fx cur os c)
 | .t l=>.t (l.map (cmpZq fx cur os))
 | .dead=>.dead
def objZq (cur:TSt) (os:List Nat):TObj → TObj
 | .box t cs=>.box t (cs.map (leafZq fx cur os))
 | .lit t cs=>.lit t (cs.map (leafZq fx cur os))
 | h=>h
def zTm (cur:TSt) (os:List Nat):List (Nat × TSl):=cur.tm.map fun x=>(x.1,offT os (slZq fx cur os x.2))
def zHp (cur:TSt) (os:List Nat):List (Nat × TObj):=(cur.hp.filter fun x=>!hasN os x.1).map fun x=>(x.1,objZq fx cur os x.2)
def ownLs (cur:TSt):List Operand → List Nat
 | []=>[]
 | .tmp t :: r=>match look2 cur.tm fx.tm t with
  | some (.c c)=>c.leaves.filterMap ownLq ++ ownLs cur r
  | _=>ownLs cur r
 | _ :: r=>ownLs cur r
def isNilT:TL → Bool
 | .nil=>true
 | _=>false
def nilFree (cur:TSt) (l:List Operand):Bool:=l.all fun x=>match evT fx cur constT x with | .c c=>c.leaves.all fun y=>!isNilT y | _=>true
def frzT (op:Op) (cur:TSt) (k:TSt → Option ρ):Option ρ :=
 match op with
 | .buildSlice t _ ps=>cond (nilFree fx cur (ps.toList.map (·.2)))
  (cond ((ownLs fx cur (ps.toList.map (·.2))).all (fun o=>match look fx.hp o with | some _=>false | none=>true) && closedT ⟨dedupA [] (zTm fx cur (ownLs fx cur (ps.toList.map (·.2))) ++ fx.tm),dedupA [] (zHp fx cur (ownLs fx cur (ps.toList.map (·.2))) ++ fx.hp)⟩) (k ⟨zTm fx cur (ownLs fx cur (ps.toList.map (·.2))),zHp fx cur (ownLs fx cur (ps.toList.map (·.2)))⟩) none)
  (match look E.H t with
  | some te=>frzAll fx cur te (ps.toList.map (·.2)) fun ns os =>
   cond (os.all (fun o=>match look fx.hp o with | some _=>false | none=>true) && closedT ⟨dedupA [] (frzTm cur ns os ++ fx.tm),dedupA [] (frzHp cur os ++ fx.hp)⟩) (k ⟨frzTm cur ns os,frzHp cur os⟩) none
  | none=>none)
 | .call c =>
  cond ((ownArgs fx cur c.args.toList).all (fun o=>match look fx.hp o with | some _=>false | none=>true) && closedT ⟨dedupA [] (zTm fx cur (ownArgs fx cur c.args.toList) ++ fx.tm),dedupA [] (zHp fx cur (ownArgs fx cur c.args.toList) ++ fx.hp)⟩) (k ⟨zTm fx cur (ownArgs fx cur c.args.toList),zHp fx cur (ownArgs fx cur c.args.toList)⟩) none
 | _=>none
def seeT (o:Oper) (cur:TSt) (k:TSt → Option ρ):Option ρ :=
 match o.dst with
 | some d=>cond (hasN E.fz d) (frzT E fx o.op cur k) (k cur)
 | none=>k cur
def guardT (ops:List Oper) (cur:TSt) (g:Nat):Option (Nat × TSl) :=
 match ops[g]? with
 | some o=>match o.dst with | some d=>some (d,(look2 cur.tm fx.tm d).getD .dead) | none=>none
 | none=>none
def regT (ops:List Oper):List Oper → TSt → (TSt → Option ρ) → Option ρ
 | [],cur,K=>K cur
 | o :: rest,cur,K=>match o.guard with
  | none=>seeT E fx o cur fun cur=>opT E fx o.op o.dst cur fun x wr=>forceTm (appT cur o.dst x wr).tm fun tm=>regT ops rest ⟨tm,(appT cur o.dst x wr).hp⟩ K
  | some (g,b)=>match guardT fx ops cur g with
   | some (d,.c (.v (.v .bool c)))=>cond c
    (cond b (opT E fx o.op o.dst ⟨putA cur.tm d (tV .bool true),cur.hp⟩ fun x wr=>forceTm (appT ⟨putA cur.tm d (tV .bool true),cur.hp⟩ o.dst x wr).tm fun tm=>regT ops rest ⟨tm,(appT cur o.dst x wr).hp⟩ K) (regT ops rest (appT ⟨putA cur.tm d (tV .bool true),cur.hp⟩ o.dst (.t []) []) K))
    (cond b (regT ops rest (appT ⟨putA cur.tm d (tV .bool false),cur.hp⟩ o.dst (.t []) []) K) (opT E fx o.op o.dst ⟨putA cur.tm d (tV .bool false),cur.hp⟩ fun x wr=>forceTm (appT ⟨putA cur.tm d (tV .bool false),cur.hp⟩ o.dst x wr).tm fun tm=>regT ops rest ⟨tm,(appT cur o.dst x wr).hp⟩ K))
   | some (d,.t _)=>regT ops rest (appT cur o.dst (.t []) []) K
   | _=>none
end
inductive An where
 | no
 | seq (a b:An)
 | join (σ:Shp) (kt kh:List Nat) (pure:Bool) (a b:An)
 | cond (a b:An)
 | loop (σ:Shp) (kt kh:List Nat) (b:An)
 | one (a:An)
 | range (σ:Shp) (kt kh:List Nat) (a b:An)
 | hand (i:Nat)
def nthH {α:Type}:List α → Nat → Option α
 | [],_=>none
 | x :: _,0=>some x
 | _ :: r,i + 1=>nthH r i
noncomputable def den [Fuel] (E : Env) : Code → An → TSt → (ρ : Type) → DecidableEq ρ → TSt → (AEx → TSt → Option ρ) → Option ρ
  | .skip, _, fx, ρ, dq, cur, K => K .normal cur
  | .region _ ops _, _, fx, ρ, dq, cur, K => regT E fx ops.toList ops.toList cur fun c => K .normal c
  | .seq a b, an, fx, ρ, dq, cur, K => match an with
    | .seq x y => den E a x fx ρ dq cur fun e c => match e with | .normal => den E b y fx ρ dq c K | e => K e c
    | .join σ kt kh true x y => Bool.rec none
        ((den E a x (fxOf fx cur (keptOf cur σ kt kh) σ) (Tup σ.ps) (tupDec σ.ps) (ownOf fx cur σ kt kh) fun e c => match e with
          | .normal => Bool.rec none (fitAll (fxOf fx cur (keptOf cur σ kt kh) σ) c σ (fxOf fx cur (keptOf cur σ kt kh) σ) some) (keysOK (fxOf fx cur (keptOf cur σ kt kh) σ) c σ)
          | _ => none).bind fun v => den E b y fx ρ dq ⟨(σ.at v).tm ++ (keptOf cur σ kt kh).tm, (σ.at v).hp ++ (keptOf cur σ kt kh).hp⟩ K)
        (closedT (fxOf fx cur (keptOf cur σ kt kh) σ) && dropOK fx cur (keptOf cur σ kt kh) σ)
    | .join σ kt kh false x y => Bool.rec none
        ((den E a x (fxOf fx cur (keptOf cur σ kt kh) σ) (Tup σ.ps ⊕ ρ) (@instDecidableEqSum _ _ (tupDec σ.ps) dq) (ownOf fx cur σ kt kh) fun e c => match e with
          | .normal => Bool.rec none (fitAll (fxOf fx cur (keptOf cur σ kt kh) σ) c σ (fxOf fx cur (keptOf cur σ kt kh) σ) fun v => some (.inl v)) (keysOK (fxOf fx cur (keptOf cur σ kt kh) σ) c σ)
          | e => (K e ⟨c.tm ++ (keptOf cur σ kt kh).tm, c.hp ++ (keptOf cur σ kt kh).hp⟩).map .inr).bind fun o => match o with
            | .inl v => den E b y fx ρ dq ⟨(σ.at v).tm ++ (keptOf cur σ kt kh).tm, (σ.at v).hp ++ (keptOf cur σ kt kh).hp⟩ K
            | .inr r => some r)
        (closedT (fxOf fx cur (keptOf cur σ kt kh) σ) && dropOK fx cur (keptOf cur σ kt kh) σ)
    | .hand i => match nthH E.hands i with
      | some h => (h fx cur).bind fun c => K .normal c
      | none => none
    | _ => none
  | .cond c a b, an, fx, ρ, dq, cur, K => match an with
    | .cond x y => match evT fx cur constT c with
      | .c (.v (.v .bool t)) => Bool.rec (den E b y fx ρ dq cur K) (den E a x fx ρ dq cur K) t
      | .c (.v (.nb pos t l)) => Bool.rec (bothN l (den E b y fx ρ dq cur K) (den E a x fx ρ dq cur K)) (bothN l (den E a x fx ρ dq cur K) (den E b y fx ρ dq cur K)) pos
      | _ => none
    | _ => none
  | .block id b, an, fx, ρ, dq, cur, K => match an with
    | .one x => den E b x fx ρ dq cur fun e c => match e with | .exit i => Bool.rec (K (.exit i) c) (K .normal c) (Nat.beq i id) | e => K e c
    | _ => none
  | .loop b, an, fx, ρ, dq, cur, K => match an with
    | .loop σ kt kh x => Bool.rec none
        (fitAll fx cur σ (fxOf fx cur (keptOf cur σ kt kh) σ) fun v0 => loopF (fun v => den E b x (fxOf fx cur (keptOf cur σ kt kh) σ) (Tup σ.ps ⊕ ρ) (@instDecidableEqSum _ _ (tupDec σ.ps) dq) (σ.at v) fun e c => match e with
          | .normal => Bool.rec none (fitAll (fxOf fx cur (keptOf cur σ kt kh) σ) c σ (fxOf fx cur (keptOf cur σ kt kh) σ) fun v => some (.inl v)) (keysOK (fxOf fx cur (keptOf cur σ kt kh) σ) c σ)
          | e => (K e ⟨c.tm ++ (keptOf cur σ kt kh).tm, c.hp ++ (keptOf cur σ kt kh).hp⟩).map .inr) v0)
        (closedT (fxOf fx cur (keptOf cur σ kt kh) σ) && dropOK fx cur (keptOf cur σ kt kh) σ)
    | _ => none
  | .exit id, _, fx, ρ, dq, cur, K => K (.exit id) cur
  | .ret, _, fx, ρ, dq, cur, K => K .ret cur
  | .scope b, an, fx, ρ, dq, cur, K => match an with
    | .one x => den E b x fx ρ dq cur K
    | _ => none
  | .rangeFunc g ps a b, an, fx, ρ, dq, cur, K => match an with
    | .range σ kt kh x y => match g with
      | .tmp tg => match look (fxOf fx cur (keptOf cur σ kt kh) σ).tm tg with
        | some (.c (.v (.fn f2 os))) => match capObjs cur.hp os with
          | some ol => match E.its.find? (fun it => Nat.beq (2 * it.f) f2) with
            | some it => Bool.rec none
              ((it.fn ol).bind fun xs => fitAll fx (curK cur os (it.at_ ol 0)) σ (fxK fx cur os (it.at_ ol 0) σ kt kh) fun v0 =>
                (foldR (fun k row v => den E a x (fxK fx cur os (it.at_ ol k) σ kt kh) (Tup σ.ps ⊕ ρ) (@instDecidableEqSum _ _ (tupDec σ.ps) dq) ⟨ps.toList.zip ((it.row row).map TSl.c) ++ (σ.at v).tm, (σ.at v).hp⟩ fun e c => match e with
                  | .normal => den E b y (fxK fx cur os (it.at_ ol k) σ kt kh) (Tup σ.ps ⊕ ρ) (@instDecidableEqSum _ _ (tupDec σ.ps) dq) c fun e c => match e with
                    | .normal => Bool.rec none (fitAll (fxK fx cur os (it.at_ ol k) σ kt kh) c σ (fxK fx cur os (it.at_ ol k) σ kt kh) fun v => some (.inl v)) (keysOK (fxK fx cur os (it.at_ ol k) σ kt kh) c σ)
                    | e => (K e ⟨(c.tm.filter fun x => !hasN (ps.toList ++ dsts a ++ dsts b) x.1) ++ (keptOf (curK cur os (it.at_ ol k)) σ kt kh).tm, c.hp ++ (keptOf (curK cur os (it.at_ ol k)) σ kt kh).hp⟩).map .inr
                  | _ => none) 0 xs v0).bind fun o => match o with
                | .inl v => K .normal ⟨(σ.at v).tm ++ (keptOf (curK cur os (it.at_ ol xs.length)) σ kt kh).tm, (σ.at v).hp ++ (keptOf (curK cur os (it.at_ ol xs.length)) σ kt kh).hp⟩
                | .inr r => some r)
              (rangeOK fx cur σ kt kh os tg (ps.toList ++ dsts a ++ dsts b) it.cs.length ps.toList.length)
            | none => none
          | none => none
        | _ => none
      | _ => none
    | _ => none
  | _, _, _, _, _, _, _ => none
def resT (P:Program) (cur:TSt):ResultVar → Option TC
 | .tmp t=>match look cur.tm t with | some (.c c)=>some c | _=>none
 | .cell t ty=>match look cur.tm t with
  | some (.c (.v (.loc o off)))=>match look cur.hp o,tySize P ty with
   | some (.box _ cs),some n=>cutT cs off n (tyAgg P ty)
   | _,_=>none
  | _=>none
def ressT (P:Program) (cur:TSt):List ResultVar → Option (List TC)
 | []=>some []
 | r :: rs=>match resT P cur r,ressT P cur rs with | some c,some l=>some (c :: l) | _,_=>none
def numT:Nat → List TC → List (Nat × TSl)
 | _,[]=>[]
 | i,c :: r=>(i,.c c) :: numT (i + 1) r
def numS:Nat → List SSh → List (Nat × SSh)
 | _,[]=>[]
 | i,c :: r=>(i,c) :: numS (i + 1) r
noncomputable def retT (P:Program) (rs:List ResultVar) (kin:List (Nat × TObj)) (out:RSh) (hout:List (Nat × OSh)) (qs:List Ty) (cur:TSt):Option (Tup qs) :=
 match ressT P ⟨cur.tm,cur.hp ++ kin⟩ rs with
 | some cs=>Bool.rec none (fitAll ⟨[],kin⟩ ⟨numT 0 cs,cur.hp⟩ ⟨numS 0 (out.comps.map .c),hout,qs⟩ ⟨[],kin⟩ some) (keysOK ⟨[],kin⟩ ⟨[],cur.hp⟩ ⟨[],[],[]⟩ && nodupN (keysN kin) && Nat.beq cs.length out.comps.length && (match out with | .one _=>true | .tup l=>!Nat.beq l.length 1))
 | none=>none
def mkSs:List SSh → List Dyn → List TSl × List Dyn
 | [],ds=>([],ds)
 | x :: r,ds=>match mkS1 x ds with | (y,ds)=>match mkSs r ds with | (l,ds)=>(y :: l,ds)
def numA:Nat → List TSl → List (Nat × TSl)
 | _,[]=>[]
 | i,c :: r=>(i,c) :: numA (i + 1) r
noncomputable def fnT [Fuel] (E:Env) (fn:Func) (an:An) (ain:List SSh) (kin hin:List (Nat × OSh)) (ps:List Ty) (out:RSh) (hout:List (Nat × OSh)) (qs:List Ty) (x:Tup ps):Option (Tup qs) :=
 match fn.body with
 | some c=>match mkSs ain (ofTup ps x) with
  | (as,ds)=>match mkHp kin ds with
   | (ks,ds)=>match mkHp hin ds with
    | (hs,_)=>Bool.rec none (den E c an ⟨[],ks⟩ (Tup qs) (tupDec qs) ⟨numA 0 as,hs⟩ fun e c=>match e with
     | .exit _=>none
     | _=>retT E.P fn.results.toList ks out hout qs c) (closedT ⟨[],ks⟩)
 | none=>none
end Go.Lad
