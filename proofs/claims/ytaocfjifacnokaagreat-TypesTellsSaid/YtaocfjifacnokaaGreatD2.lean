import Derived.Test.YtaocfjifacnokaaGreatD1
namespace Go.Lad
set_option linter.unusedVariables false
set_option linter.unusedSimpArgs false
open Go.RowKit
def Tup:List Ty → Type
 | []=>Unit
 | [t]=>t.den
 | t :: u :: r=>t.den × Tup (u :: r)
noncomputable def xq:(t:Ty) → DecidableEq t.den
 | .any=>Kv
 | .int _=>inferInstanceAs (DecidableEq Int)
 | .bool=>inferInstanceAs (DecidableEq Bool)
 | .str=>inferInstanceAs (DecidableEq (List UInt8))
 | .sl e=>@instDecidableEqList e.den (xq e)
 | .pair a b=>@instDecidableEqProd a.den b.den (xq a) (xq b)
 | .slu i=>fun a b=>Classical.propDecidable (a = b)
 | .map _ e=>@instDecidableEqList (Int × List e.den) (@instDecidableEqProd Int (List e.den) inferInstance (@instDecidableEqList e.den (xq e)))
noncomputable def pW:(ps:List Ty) → DecidableEq (Tup ps)
 | []=>inferInstanceAs (DecidableEq Unit)
 | [t]=>xq t
 | t :: u :: r=>@instDecidableEqProd t.den (Tup (u :: r)) (xq t) (pW (u :: r))
def jH:(ps:List Ty) → Tup ps → List Dyn
 | [],_=>[]
 | [t],x=>[⟨t,x⟩]
 | t :: u :: r,x=>⟨t,x.1⟩ :: jH (u :: r) x.2
def Aq {ρ:Type}:(ps:List Ty) → List Dyn → (Tup ps → Option ρ) → Option ρ
 | [],[],k=>k ()
 | [t],[d],k=>jF d.t t d.x k
 | t :: u :: r,d :: ds,k=>jF d.t t d.x fun x=>Aq (u :: r) ds fun y=>k (x,y)
 | _,_,_=>none
inductive LSh where
 | dead
 | d (t:Ty)
 | nil
 | own (o:Nat)
 | loc (o off:Nat)
 | mp (o:Nat)
 | fn (f:FuncId) (caps:List Nat)
 | pn
 | mn
 | bc (b:Bool)
 | ip (t:Ty)
 | vp (o:Nat)
inductive CSh where
 | v (x:LSh)
 | g (xs:List LSh)
 | a (t:Ty)
inductive SSh where
 | dead
 | c (x:CSh)
 | t (l:List CSh)
inductive OSh where
 | gone
 | box (t:TypeId) (xs:List LSh)
 | arr (e:TypeId) (t:Ty)
 | ix (k:IntKind) (agg:Bool) (t:Ty)
 | fi (agg:Bool) (t:Ty)
 | iy (k:IntKind) (agg:Bool) (t:Ty)
 | jN (k:IntKind) (e:TypeId) (t:Ty)
structure Shp where
 tm:List (Nat × SSh)
 hp:List (Nat × OSh)
 ps:List Ty
def mkL:LSh → List Dyn → TL × List Dyn
 | .dead,ds=>(.dead,ds)
 | .d t,d :: r=>match Ty.same d.t t with | some h=>(.v t (jT h.down d.x),r) | none=>(.dead,r)
 | .d _,[]=>(.dead,[])
 | .nil,ds=>(.nil,ds)
 | .own o,ds=>(.own o,ds)
 | .loc o off,ds=>(.loc o off,ds)
 | .mp o,ds=>(.mp o,ds)
 | .fn f caps,ds=>(.fn f caps,ds)
 | .pn,ds=>(.oth (.pointer none),ds)
 | .mn,ds=>(.oth (.map none),ds)
 | .bc b,ds=>(.v .bool b,ds)
 | .ip t,d :: r=>match Ty.same d.t t with | some h=>(.ip t (jT h.down d.x) 0,r) | none=>(.dead,r)
 | .ip _,[]=>(.dead,[])
 | .vp o,ds=>(.el o 0 0 1,ds)
def pX:List LSh → List Dyn → List TL × List Dyn
 | [],ds=>([],ds)
 | x :: r,ds=>match mkL x ds with | (y,ds)=>match pX r ds with | (l,ds)=>(y :: l,ds)
def mkC:CSh → List Dyn → TC × List Dyn
 | .v x,ds=>match mkL x ds with | (y,ds)=>(.v y,ds)
 | .g xs,ds=>match pX xs ds with | (l,ds)=>(.g l,ds)
 | .a t,d :: r=>match Ty.same d.t t with | some h=>(.g (dH t (jT h.down d.x)),r) | none=>(.g [],r)
 | .a _,[]=>(.g [],[])
def jO:List CSh → List Dyn → List TC × List Dyn
 | [],ds=>([],ds)
 | x :: r,ds=>match mkC x ds with | (y,ds)=>match jO r ds with | (l,ds)=>(y :: l,ds)
def u7:SSh → List Dyn → TSl × List Dyn
 | .dead,ds=>(.dead,ds)
 | .c x,ds=>match mkC x ds with | (y,ds)=>(.c y,ds)
 | .t l,ds=>match jO l ds with | (l,ds)=>(.t l,ds)
def Ar:List (Nat × SSh) → List Dyn → List (Nat × TSl) × List Dyn
 | [],ds=>([],ds)
 | x :: r,ds=>match u7 x.2 ds with | (y,ds)=>match Ar r ds with | (l,ds)=>((x.1,y) :: l,ds)
def lG (t:Ty) (d:Dyn):List t.den:=match Ty.same d.t (.sl t) with | some h=>jT (b := .sl t) h.down d.x | none=>[]
def GU (k:IntKind) (t:Ty) (d:Dyn):List (Int × List t.den):=match Ty.same d.t (.map k t) with | some h=>jT (b := .map k t) h.down d.x | none=>[]
def mkO:OSh → List Dyn → cY × List Dyn
 | .gone,ds=>(.gone,ds)
 | .box t xs,ds=>match pX xs ds with | (l,ds)=>(.box t l,ds)
 | .arr e t,d :: ds=>(.arr e t (lG t d),ds)
 | .ix k agg t,d :: ds=>(.ix k agg t (lG (.pair (.int k) t) d),ds)
 | .fi agg t,d :: ds=>(.fi agg t (lG (.pair .str t) d),ds)
 | .iy k agg t,d :: ds=>(.iy k agg t (lG (.pair (.pair (.int k) (.int .i64)) t) d),ds)
 | .jN k e t,d :: ds=>(.jN k e t (GU k t d) none,ds)
 | .arr e t,[]=>(.gone,[])
 | .jN k e t,[]=>(.gone,[])
 | .ix k agg t,[]=>(.gone,[])
 | .fi agg t,[]=>(.gone,[])
 | .iy k agg t,[]=>(.gone,[])
def lT:List (Nat × OSh) → List Dyn → List (Nat × cY) × List Dyn
 | [],ds=>([],ds)
 | x :: r,ds=>match mkO x.2 ds with | (y,ds)=>match lT r ds with | (l,ds)=>((x.1,y) :: l,ds)
def Shp.mk' (σ:Shp) (ds:List Dyn):TSt:=match Ar σ.tm ds with | (tm,ds)=>match lT σ.hp ds with | (hp,_)=>⟨tm,hp⟩
def Shp.at (σ:Shp) (x:Tup σ.ps):TSt:=σ.mk' (jH σ.ps x)
structure FS where
 m:List (Nat × Nat)
 kC:List Nat
 frz:List Nat
def cm:List Nat → Nat → Bool
 | [],_=>false
 | x :: r,k=>cond (Nat.beq k x) true (cm r k)
def Ct:List (Nat × Nat) → Nat → Nat → Bool
 | [],_,_=>false
 | x :: r,a,b=>cond (Nat.beq a x.1 && Nat.beq b x.2) true (Ct r a b)
def FS.ren (f:FS) (o o2:Nat):FS:=cond (Ct f.m o o2) f { f with m:=(o,o2) :: f.m }
abbrev KF (ρ:Type):=FS → List Dyn → Option ρ
def u9:List Nat → List Nat → FS → Option FS
 | [],[],f=>some f
 | x :: xs,y :: ys,f=>u9 xs ys (f.ren x y)
 | _,_,_=>none
section
variable {ρ:Type} (fx cur:TSt)
def As (t:Ty) (l:TL) (f:FS) (k:t.den → FS → Option ρ):Option ρ :=
 match l with
 | .v t' x=>sO t' t x fun x=>k x f
 | .nil=>GJ t fun x=>k x f
 | .own o=>match obT fx cur o with
  | some (.arr _ t' l)=>sO (.sl t') t l fun x=>k x { f with frz:=o :: f.frz }
  | _=>none
 | .mp o=>match obT fx cur o with
  | some (.jN kd _ t' m none)=>jF (.map kd t') t m fun x=>k x { f with frz:=o :: f.frz }
  | _=>none
 | _=>none
def xr:(t:Ty) → List TL → FS → (t.den → FS → List TL → Option ρ) → Option ρ
 | .pair a b,ls,f,k=>xr a ls f fun x f ls=>xr b ls f fun y f ls=>k (x,y) f ls
 | t,l :: ls,f,k=>As fx cur t l f fun x f=>k x f ls
 | _,[],_,_=>none
def I0 (te:Ty):List TL → FS → (List te.den → FS → Option ρ) → Option ρ
 | [],f,k=>k [] f
 | x :: r,f,k=>As fx cur te x f fun x f=>I0 te r f fun l f=>k (x :: l) f
def GV (t:Ty) (o:Nat) (cs:List TL) (f:FS) (k:KF ρ):Option ρ :=
 match t with
 | .sl te=>cond (tx te) (I0 fx cur te cs f fun l f=>k { f with frz:=o :: f.frz } [⟨.sl te,l⟩]) none
 | _=>none
def bEq:Bool → Bool → Bool
 | true,c=>c
 | false,c=>!c
def I1 (sh:LSh) (x:TL) (f:FS) (k:KF ρ):Option ρ :=
 match sh with
 | .dead=>k f []
 | .d t=>match x with
  | .v t' x=>jF t' t x fun x=>k f [⟨t,x⟩]
  | .nil=>match t with | .sl e=>k f [⟨.sl e,([]:List e.den)⟩] | _=>none
  | .tl t' l=>jF (.sl t') t l fun x=>k f [⟨t,x⟩]
  | .own o=>match obT fx cur o with | some (.arr _ t' l)=>jF (.sl t') t l fun x=>k { f with frz:=o :: f.frz } [⟨t,x⟩] | some (.lit _ cs)=>GV fx cur t o cs f k | _=>none
  | .sv o a b z=>match obT fx cur o with | some (.arr _ t' l)=>cond (Nat.beq z t'.cells && Nat.ble 1 z) ((cut l a b).bind fun l=>jF (.sl t') t l fun x=>k { f with frz:=o :: f.frz } [⟨t,x⟩]) none | _=>none
  | _=>none
 | .nil=>match x with | .nil=>k f [] | _=>none
 | .own o2=>match x with | .own o=>k (f.ren o o2) [] | .nil=>k { f with kC:=o2 :: f.kC } [] | _=>none
 | .loc o2 off2=>match x with | .loc o off=>cond (Nat.beq off off2) (k (f.ren o o2) []) none | _=>none
 | .mp o2=>match x with | .mp o=>k (f.ren o o2) [] | _=>none
 | .fn g2 caps2=>match x with | .fn g caps=>cond (Nat.beq g g2) (match u9 caps caps2 f with | some f=>k f [] | none=>none) none | _=>none
 | .pn=>match x with | .oth (.pointer none)=>k f [] | _=>none
 | .mn=>match x with | .oth (.map none)=>k f [] | _=>none
 | .bc b=>match x with | .v .bool c=>cond (bEq b c) (k f []) none | _=>none
 | .ip t=>match x with
  | .loc o off=>cond (Nat.beq off 0) (match obT fx cur o with
   | some (.box _ xs)=>xr fx cur t xs f fun x f rest=>match rest with | []=>k { f with frz:=o :: f.frz } [⟨t,x⟩] | _=>none
   | _=>none) none
  | .ip t' x off=>cond (Nat.beq off 0) (jF t' t x fun x=>k f [⟨t,x⟩]) none
  | _=>none
 | .vp o2=>match x with | .el o n 0 1=>cond (eqZ n 0) (k (f.ren o o2) []) none | _=>none
def Au:List LSh → List TL → FS → KF ρ → Option ρ
 | [],[],f,k=>k f []
 | s :: ss,x :: xs,f,k=>I1 fx cur s x f fun f ds=>Au ss xs f fun f es=>k f (ds ++ es)
 | _,_,_,_=>none
def I2:CSh → TC → FS → KF ρ → Option ρ
 | .a t,.g xs,f,k=>xr fx cur t xs f fun x f rest=>match rest with | []=>k f [⟨t,x⟩] | _=>none
 | .v s,.v x,f,k=>I1 fx cur s x f k
 | .g ss,.g xs,f,k=>Au fx cur ss xs f k
 | _,_,_,_=>none
def Dy:List CSh → List TC → FS → KF ρ → Option ρ
 | [],[],f,k=>k f []
 | s :: ss,x :: xs,f,k=>I2 fx cur s x f fun f ds=>Dy ss xs f fun f es=>k f (ds ++ es)
 | _,_,_,_=>none
def I3 (s:SSh) (x:TSl) (f:FS) (k:KF ρ):Option ρ :=
 match s with
 | .dead=>k f []
 | .c s=>match x with | .c x=>I2 fx cur s x f k | _=>none
 | .t ss=>match x with | .t xs=>Dy fx cur ss xs f k | _=>none
def Dz:List (Nat × SSh) → FS → KF ρ → Option ρ
 | [],f,k=>k f []
 | s :: ss,f,k=>I3 fx cur s.2 ((pH cur.tm fx.tm s.1).getD .dead) f fun f ds=>Dz ss f fun f es=>k f (ds ++ es)
def eP:List (Nat × Nat) → Nat → Option Nat
 | [],_=>none
 | x :: r,k=>cond (Nat.beq k x.2) (some x.1) (eP r k)
def KS (s:OSh) (o:Option cY) (f:FS) (k:KF ρ):Option ρ :=
 match s with
 | .gone=>match o with | some _=>k f [] | none=>none
 | .box t ss=>match o with | some (.box t' xs)=>cond (Nat.beq t t') (Au fx cur ss xs f k) none | _=>none
 | .arr e t=>match o with | some (.arr e' t' l)=>cond (Nat.beq e e') (jF (.sl t') (.sl t) l fun l=>k f [⟨.sl t,l⟩]) none | _=>none
 | .ix kd agg t=>match o with | some (.ix kd' agg' t' m)=>cond (agg == agg') (jF (.sl (.pair (.int kd') t')) (.sl (.pair (.int kd) t)) m fun l=>k f [⟨.sl (.pair (.int kd) t),l⟩]) none | _=>none
 | .fi agg t=>match o with | some (.fi agg' t' m)=>cond (agg == agg') (jF (.sl (.pair .str t')) (.sl (.pair .str t)) m fun l=>k f [⟨.sl (.pair .str t),l⟩]) none | _=>none
 | .jN kd e t=>match o with | some (.jN kd' e' t' m none)=>cond (Nat.beq e e') (jF (.map kd' t') (.map kd t) m fun l=>k f [⟨.map kd t,l⟩]) none | _=>none
 | .iy kd agg t=>match o with | some (.iy kd' agg' t' m)=>cond (agg == agg') (jF (.sl (.pair (.pair (.int kd') (.int .i64)) t')) (.sl (.pair (.pair (.int kd) (.int .i64)) t)) m fun l=>k f [⟨.sl (.pair (.pair (.int kd) (.int .i64)) t),l⟩]) none | _=>none
def sP:List (Nat × OSh) → FS → KF ρ → Option ρ
 | [],f,k=>k f []
 | s :: ss,f,k=>match eP f.m s.1 with
  | some o=>KS fx cur s.2 (obT fx cur o) f fun f ds=>sP ss f fun f es=>k f (ds ++ es)
  | none=>match s.2 with
   | .arr e t=>sP ss { f with kC:=s.1 :: f.kC } fun f es=>k f (⟨.sl t,([]:List t.den)⟩ :: es)
   | .gone=>sP ss f k
   | _=>none
end
def oD:List Nat → Bool
 | []=>true
 | x :: r=>!cm r x && oD r
def aW {α:Type} (l:List (Nat × α)):List Nat:=l.map (·.1)
def I4 (l:List (Nat × Nat)):List Nat:=l.map (·.1)
def tf (l:List (Nat × Nat)):List Nat:=l.map (·.2)
def FS.ok (f:FS) (hk:List Nat) (pin:Bool):Bool :=
 oD (I4 f.m) && oD (tf f.m) && f.m.all (fun x=>cm hk x.2 && (!pin || Nat.ble (x.2 + 1) 1000000 || Nat.beq x.1 x.2)) && f.frz.all (fun o=>!cm (I4 f.m) o) && f.kC.all (fun o=>!cm (tf f.m) o && cm hk o && Nat.ble (o + 1) 1000000)
def Av:List (Nat × OSh) → List (Nat × Nat)
 | []=>[]
 | x :: r=>match x.2 with
  | .gone=>Av r
  | _=>cond (Nat.ble 1000000 x.1) ((x.1,x.1) :: Av r) (Av r)
def fitAll {ρ:Type} (fx cur:TSt) (σ:Shp) (fx2:TSt) (k:Tup σ.ps → Option ρ):Option ρ :=
 Dz fx cur σ.tm ⟨(fx2.hp.map fun x=>(x.1,x.1)) ++ Av σ.hp,[],[]⟩ fun f ds=>sP fx cur σ.hp f fun f es =>
  cond (f.ok (aW σ.hp ++ aW fx2.hp) true) (Aq σ.ps (ds ++ es) k) none
def TSl.rX:TSl → Bool
 | .dead=>true
 | _=>false
def oE (fx cur:TSt) (σ:Shp):Bool :=
 cur.tm.all (fun x=>cm (aW σ.tm) x.1 || (match look fx.tm x.1 with | some y=>y.rX | none=>true)) && cur.hp.all (fun x=>cm (aW σ.hp) x.1 || (match look fx.hp x.1 with | some _=>false | none=>true))
def TL.gw:TL → List Nat
 | .loc o _ | .own o | .el o _ _ _ | .mp o | .sv o _ _ _=>[o]
 | .fn _ caps=>caps
 | _=>[]
def TSl.gw:TSl → List Nat
 | .dead=>[]
 | .c x=>x.leaves.flatMap TL.gw
 | .t l=>l.flatMap fun c=>c.leaves.flatMap TL.gw
def cY.gw:cY → List Nat
 | .box _ cs=>cs.flatMap TL.gw
 | .lit _ cs=>cs.flatMap TL.gw
 | .py _ _ _ _ _ d=>[d]
 | _=>[]
def gj (fx:TSt):Bool:=fx.tm.all (fun x=>x.2.gw.all (cm (aW fx.hp))) && fx.hp.all (fun x=>x.2.gw.all (cm (aW fx.hp)))
def bE (cur:TSt) (σ:Shp) (kt kh:List Nat):TSt :=
 ⟨((cur.tm.filter fun x=>!cm (aW σ.tm) x.1).map fun x=>(x.1,cond (cm kt x.1) x.2 .dead)) ++ (aW σ.tm).map fun k=>(k,.dead),cur.hp.filter fun x=>!cm (aW σ.hp) x.1 && cm kh x.1⟩
def fk {α:Type}:List Nat → List (Nat × α) → List (Nat × α)
 | _,[]=>[]
 | seen,x :: r=>cond (cm seen x.1) (fk seen r) (x :: fk (x.1 :: seen) r)
def fR (fx cur kept:TSt) (σ:Shp):TSt :=
 ⟨fk [] (kept.tm ++ fx.tm.filter fun x=>!cm (aW cur.tm) x.1 && !cm (aW σ.tm) x.1),fk [] (kept.hp ++ fx.hp.filter fun x=>!cm (aW cur.hp) x.1 && !cm (aW σ.hp) x.1)⟩
def vd (fx cur:TSt) (σ:Shp) (kt kh:List Nat):TSt :=
 ⟨(cur.tm.filter fun x=>cm (aW σ.tm) x.1 || !cm kt x.1) ++ fx.tm.filter fun x=>cm (aW σ.tm) x.1 && !cm (aW cur.tm) x.1,cur.hp.filter fun x=>cm (aW σ.hp) x.1 || !cm kh x.1⟩
def kK (fx cur kept:TSt) (σ:Shp):Bool :=
 cur.hp.all (fun x=>cm (aW σ.hp) x.1 || cm (aW kept.hp) x.1 || (match look fx.hp x.1 with | some _=>false | none=>true)) && σ.hp.all fun x=>match look fx.hp x.1 with | some _=>false | none=>true
inductive RSh where
 | one (c:CSh)
 | tup (l:List CSh)
structure Con where
 f:FuncId
 ain:List SSh
 kin:List (Nat × OSh)
 hin:List (Nat × OSh)
 ps:List Ty
 out:RSh
 gR:List (Nat × OSh)
 qs:List Ty
 fn:Tup ps → Option (Tup qs)
def rnT (ρ:List (Nat × Nat)) (o:Nat):Nat:=match look ρ o with | some x=>x | none=>o
def th (ρ:List (Nat × Nat)):TL → TL
 | .loc o f=>.loc (rnT ρ o) f
 | .own o=>.own (rnT ρ o)
 | .el o i f z=>.el (rnT ρ o) i f z
 | .mp o=>.mp (rnT ρ o)
 | .fn f caps=>.fn f (caps.map (rnT ρ))
 | .sv o a b z=>.sv (rnT ρ o) a b z
 | x=>x
def GW (ρ:List (Nat × Nat)):TC → TC
 | .v x=>.v (th ρ x)
 | .g xs=>.g (xs.map (th ρ))
def ve (ρ:List (Nat × Nat)):cY → cY
 | .box t cs=>.box t (cs.map (th ρ))
 | .lit t cs=>.lit t (cs.map (th ρ))
 | .py _ _ _ _ _ _=>.gone
 | h=>h
def LSh.fK:LSh → Bool
 | .d t=>t.fK
 | .ip _=>false
 | _=>true
def CSh.leaves:CSh → List LSh
 | CSh.v x=>[x]
 | CSh.g xs=>xs
 | CSh.a t=>[.d t]
def RSh.fU:RSh → List CSh
 | .one c=>[c]
 | .tup l=>l
def OSh.fK:OSh → Bool
 | .box _ xs=>xs.all LSh.fK
 | .arr _ t=>t.fK
 | .jN _ _ t=>t.fK
 | .fi _ t=>t.fK
 | _=>true
def LSh.vg:LSh → Bool
 | .ip _=>false
 | _=>true
def SSh.vg:SSh → Bool
 | .dead=>true
 | .c x=>x.leaves.all LSh.vg
 | .t l=>l.all fun c=>c.leaves.all LSh.vg
def Con.fK (c:Con):Bool:=c.out.fU.all (fun x=>x.leaves.all LSh.fK) && c.gR.all (fun x=>x.2.fK) && c.kin.all fun x=>x.2.fK
def kL (d:Nat) (m:List (Nat × Nat)):List (Nat × OSh) → List (Nat × Nat)
 | []=>[]
 | x :: r=>cond (cm (tf m) x.1) (kL d m r) ((x.1,d + 10000 * x.1) :: kL d m r)
section
variable {ρ:Type} (fx cur:TSt)
def tC:List SSh → List TSl → FS → KF ρ → Option ρ
 | [],[],f,k=>k f []
 | s :: ss,x :: xs,f,k=>I3 fx cur s x f fun f ds=>tC ss xs f fun f es=>k f (ds ++ es)
 | _,_,_,_=>none
def jo:List LSh → List TL → Bool
 | [],[]=>true
 | .d _ :: ss,.v _ _ :: xs=>jo ss xs
 | .own _ :: ss,.own _ :: xs=>jo ss xs
 | .loc _ _ :: ss,.loc _ _ :: xs=>jo ss xs
 | .mp _ :: ss,.mp _ :: xs=>jo ss xs
 | .fn _ _ :: ss,.fn _ _ :: xs=>jo ss xs
 | .nil :: ss,.nil :: xs=>jo ss xs
 | .pn :: ss,.oth _ :: xs=>jo ss xs
 | .mn :: ss,.oth _ :: xs=>jo ss xs
 | .vp _ :: ss,.el _ _ _ _ :: xs=>jo ss xs
 | _,_=>false
def GX (s:OSh) (o:Option cY):Bool :=
 match s,o with
 | .box _ ss,some (.box _ xs)=>jo ss xs
 | .arr _ _,some (.arr _ _ _)=>true
 | .ix _ _ _,some (.ix _ _ _ _)=>true
 | .fi _ _,some (.fi _ _ _)=>true
 | .iy _ _ _,some (.iy _ _ _ _)=>true
 | .jN _ _ _,some (.jN _ _ _ _ _)=>true
 | _,_=>false
def pj (m:List (Nat × Nat)):List (Nat × OSh) → Bool
 | []=>true
 | s :: ss=>(match eP m s.1 with | some o=>GX s.2 (obT fx cur o) | none=>false) && pj m ss
def tD (r:RSh) (ρ:List (Nat × Nat)) (cs:List TC):TSl :=
 match r,cs with
 | .one _,[c]=>.c (GW ρ c)
 | _,cs=>.t (cs.map (GW ρ))
def vh (con:Con) (d:Nat) (args:List TSl) (k:KE ρ):Option ρ :=
 tC fx cur con.ain args ⟨[],[],[]⟩ fun f ds=>sP fx cur con.kin f fun f es=>sP fx cur con.hin f fun f gs =>
  cond (f.ok (aW con.kin ++ aW con.hin) false && (match f.kC with | []=>true | _=>false) && f.m.all (fun x=>Nat.ble 1000000 x.2 && cm (aW con.gR ++ aW con.kin) x.2 && (match obT fx cur x.1 with | some _=>true | none=>false)) && (match f.frz with | []=>true | _=>con.fK) && oD (aW con.gR ++ aW con.kin) && con.gR.all (fun x=>cm (tf f.m) x.1 || (Nat.ble (x.1 + 1) 50 && nT fx cur (d + 10000 * x.1))) && pj fx cur f.m con.kin)
   (Aq con.ps (ds ++ (es ++ gs)) fun x=>(con.fn x).bind fun r=>match jO con.out.fU (jH con.qs r) with
    | (cs,ds)=>match lT con.gR ds with
     | (hs,_)=>k (tD con.out (f.m.map (fun x=>(x.2,x.1)) ++ kL d f.m con.gR) cs) (hs.map fun x=>(rnT (f.m.map (fun x=>(x.2,x.1)) ++ kL d f.m con.gR) x.1,ve (f.m.map (fun x=>(x.2,x.1)) ++ kL d f.m con.gR) x.2))) none
end
def DA (Φ:List Con) (sel:List (Nat × Nat)) (f:FuncId) (d:Nat):Option Con :=
 match look sel d with
 | some i=>match Φ[i]? with | some c=>cond (Nat.beq c.f f) (some c) none | none=>none
 | none=>Φ.find? fun c=>Nat.beq c.f f
structure Iter where
 f:FuncId
 cs:List CSh
 ps:List Ty
 fn:List cY → Option (List (Tup ps))
 at_:List cY → Nat → List cY
def Iter.row (it:Iter) (x:Tup it.ps):List TC:=(jO it.cs (jH it.ps x)).1
def me (os:List Nat) (ol:List cY) (l:List (Nat × cY)):List (Nat × cY):=l.map fun x=>(x.1,match look (os.zip ol) x.1 with | some h=>h | none=>x.2)
def lV (cur:TSt) (os:List Nat) (ol:List cY):TSt:=⟨cur.tm,me os ol cur.hp⟩
def tE (l:List (Nat × cY)):List Nat → Option (List cY)
 | []=>some []
 | o :: r=>match look l o with
  | some h=>match tE l r with | some t=>some (h :: t) | none=>none
  | none=>none
def oF {α σ β:Type} (f:Nat → α → σ → Option (σ ⊕ β)):Nat → List α → σ → Option (σ ⊕ β)
 | _,[],s=>some (.inl s)
 | k,x :: r,s=>(f k x s).bind fun y=>match y with
  | .inl s'=>oF f (k + 1) r s'
  | .inr b=>some (.inr b)
def fxK (fx cur:TSt) (os:List Nat) (ol:List cY) (σ:Shp) (kt kh:List Nat):TSt:=fR fx (lV cur os ol) (bE (lV cur os ol) σ kt kh) σ
def Cu:SSh → Bool
 | .c (.v (.loc _ _))=>true
 | _=>false
def DB (fx cur:TSt) (σ:Shp) (kt kh:List Nat) (os:List Nat) (tg:Nat) (ts:List Nat) (n m:Nat):Bool :=
 gj (fR fx cur (bE cur σ kt kh) σ) && kK fx cur (bE cur σ kt kh) σ && (σ.tm.all (fun x=>Cu x.2 && !cm ts x.1) && !cm (aW σ.tm) tg) && Nat.beq n m && os.all (fun o=>cm (aW (bE cur σ kt kh).hp) o) && oD os &&
  (fR fx cur (bE cur σ kt kh) σ).tm.all (fun x=>!cm ts x.1 || x.2.rX)
structure Env where
 P:Program
 H:List (Nat × Ty)
 Φ:List Con
 sel:List (Nat × Nat)
 js:List Nat
 hs:List Nat
 fz:List Nat
 zs:List Nat
 ns:List Nat
 bs:List Nat
 its:List Iter:=[]
 G6:List (TSt → TSt → Option TSt):=[]
def xt:List TSl → Option (List Nat)
 | []=>some []
 | .c (.v (.loc o 0)) :: r=>match xt r with | some l=>some (o :: l) | none=>none
 | _=>none
def qG (E:Env) (d:Option Nat):Bool:=match d with | some d'=>cm E.zs d' | none=>false
section
variable {ρ:Type} (E:Env) (fx:TSt)
def GY (fx cur:TSt) (args:List TSl):Bool:=args.all fun x=>x.gw.all fun i=>match obT fx cur i with | some (.lit _ _) | none=>false | _=>true
def orT {ρ:Type} (a b:Option ρ):Option ρ:=match a with | some r=>some r | none=>b
def Aw (E:Env) (fx cur:TSt) (c:Call) (caps:List Nat) (f d:Nat) (con:Con) (k:KE ρ):Option ρ :=
 cond ((cm E.hs d || GY fx cur (cond (Nat.beq (f % 2) 0) (c.args.toList.map (evT fx cur da) ++ caps.map fun o=>tL (.loc o 0)) ((caps.map fun o=>tL (.loc o 0)) ++ c.args.toList.map (evT fx cur da)))) && (match con.kin,con.hin with | [],[]=>con.ain.all SSh.vg || cm E.hs d | _,_=>cm E.hs d) && (match con.hin with | []=>true | _=>!cm E.hs (d + 1000000))) (vh fx cur con d (cond (Nat.beq (f % 2) 0) (c.args.toList.map (evT fx cur da) ++ caps.map fun o=>tL (.loc o 0)) ((caps.map fun o=>tL (.loc o 0)) ++ c.args.toList.map (evT fx cur da))) k) none
def lW (op:Op) (d:Option Nat) (cur:TSt) (k:KE ρ):Option ρ :=
 let ev:=evT fx cur da
 match op with
 | .move x | .assign x=>J9 (ev x) k
 | .pick c x y=>GK (ev c) (ev x) (ev y) k
 | .alloc t=>match qG E d with | true=>MQ E.P E.H fx cur t d k | false=>Cj E.P fx cur t d k
 | .load t x=>GL E.P fx cur t (ev x) k
 | .store t x v=>Ck E.P fx cur t (ev x) (ev v) k
 | .nilCheck x=>Ky (ev x) k
 | .fieldAddr t x f=>pT E.P t f (ev x) k
 | .field t x f=>Cl E.P t f (ev x) k
 | .indexAddr t x i=>KO E.P fx cur t (ev x) (ev i) k
 | .index t x i=>Cm E.P t (ev x) (ev i) k
 | .binOp b t x y _=>match qG E d with
  | true=>match Kd b with | true=>Ke E.P fx cur b t (ev x) (ev y) k | false=>GN b (ev x) (ev y) k
  | false=>match ev x,ev y with
   | .c (.g xs),.c (.g ys)=>KI E.P b t xs ys k
   | X,Y=>match LJ b with | true=>tSh b X Y k | false=>KD E.P b t X Y k
 | .unOp b _ x=>tUn b (ev x) k
 | .extract x i=>uZ i (ev x) k
 | .build t ps=>Cp E.P t (ps.toList.map (·.1)) (ps.toList.map fun p=>ev p.2) k
 | .buildSlice t n ps=>match d with
  | some d'=>cond (cm E.zs d') (yI E.P E.H (cm E.ns d') t n (ps.toList.map (·.1)) (ps.toList.map fun p=>ev p.2) k) (u5 E.P E.H fx cur t n (ps.toList.map (·.1)) (some d') (ps.toList.map fun p=>ev p.2) k)
  | none=>none
 | .convert s t x=>match qG E d with | true=>tCO E.P fx cur s t d (ev x) k | false=>GO E.P fx cur s t (ev x) k
 | .slice t x none (some h) (some m)=>MO E.P t (ev x) (ev h) (ev m) k
 | .slice t x l h none=>match qG E d with | true=>Kc E.P fx cur t l.isSome h.isSome d (ev x) ((l.toList ++ h.toList).map ev) k | false=>yJ E.P fx cur t l.isSome h.isSome (ev x) ((l.toList ++ h.toList).map ev) k
 | .box t x=>KL E.P fx cur t d (ev x) k
 | .makeMap t none=>match qG E d with | true=>KR E.P E.H fx cur t d k | false=>u6 E.P E.H fx cur t d k
 | .lookup t m x ok=>match ok,qG E d with | false,true=>L8 E.P fx cur t d (ev m) (ev x) k | _,_=>GR E.P fx cur E.H t ok (ev m) (ev x) k
 | .mapUpdate t m x v=>KP E.P fx cur t (ev m) (ev x) (ev v) k
 | .mapEntry t m x=>ET E.P fx cur t d (ev m) (ev x) k
 | .entryStore _ m st v=>Ap fx cur (ev m) (ev st) (ev v) k
 | .makeFunc (.func f) first caps=>rW f first.size (xt ((first.toList ++ caps.toList).map ev)) k
 | .makeSlice t x y=>Cq E.P E.H fx cur t d (ev x) (ev y) k
 | .call c=>match c.callee with
  | .builtin .len=>match c.args.toList,c.argTypes.toList with | [x],[t]=>KK E.P fx cur t (ev x) k | _,_=>none
  | .builtin .append=>match c.args.toList,c.argTypes.toList with | [x,y],[t,t']=>cond (Nat.beq t t') (match qG E d with | true=>GS E.P fx cur t (ev x) (ev y) k | false=>xp E.P E.H fx cur t d (ev x) (ev y) k) (match qG E d with | true=>none | false=>L7 E.P E.H fx cur t t' d (ev x) (ev y) k) | _,_=>none
  | .builtin .cap=>match c.args.toList,c.argTypes.toList with | [x],[t]=>MP E.P t (ev x) k | _,_=>none
  | .builtin .copy=>match c.args.toList,c.argTypes.toList with | [x,y],[t,u]=>L6 E.P fx cur t u (ev x) (ev y) k | _,_=>none
  | .builtin .clear=>match c.args.toList,c.argTypes.toList with | [x],[t]=>KQ E.P fx cur t (ev x) k | _,_=>none
  | .builtin .min=>match c.args.toList with | [x,y]=>Dx false (ev x) (ev y) k | _=>none
  | .builtin .max=>match c.args.toList with | [x,y]=>Dx true (ev x) (ev y) k | _=>none
  | .value g=>match ev g,d with
   | .c (.v (.fn f caps)),some d=>match DA E.Φ E.sel (f / 2) d with
    | some con=>match look E.sel (d + 1000000) with
     | none=>Aw E fx cur c caps f d con k
     | some _=>match DA E.Φ E.sel (f / 2) (d + 1000000) with
      | some con2=>orT (Aw E fx cur c caps f d con k) (Aw E fx cur c caps f d con2 k)
      | none=>none
    | none=>none
   | _,_=>none
  | _=>none
 | _=>none
def L9 (os:List Operand) (cur:TSt):Bool:=os.all fun x=>match (evT fx cur da x).gw with | []=>true | _=>false
def KT (os:List Operand) (cur:TSt):Bool:=os.all fun x=>(evT fx cur da x).gw.all fun i=>match obT fx cur i with | some (.box _ _)=>true | _=>false
def KU (os:List Operand) (cur:TSt):Bool:=os.all fun x=>(evT fx cur da x).gw.all fun i=>match obT fx cur i with | some (.arr _ _ _)=>true | _=>false
def Kf (op:Op) (cur:TSt):Bool:=match nQ op with
 | some a=>E.bs.all fun e=>cond (Nat.beq (e / 1000000) (a + 1)) ((evT fx cur da (.tmp a)).gw.all fun i=>cond (Nat.ble 500000 (e % 1000000)) (Nat.beq (i + 500000) (e % 1000000)) (match obT fx cur i with | some (.box t _)=>Nat.beq t (e % 1000000) | _=>false)) true
 | none=>true
def Ma (op:Op) (d:Option Nat) (cur:TSt) (k:KE ρ):Option ρ :=
 match d with
 | some d=>cond (cm E.ns d) (cond (L9 fx (Op.cK op) cur) (lW E fx op (some d) cur k) none) (cond (cm E.bs d) (cond (cond (uE op) (KU fx (Op.cK op) cur) (KT fx (Op.cK op) cur)) (lW E fx op (some d) cur k) none) (lW E fx op (some d) cur k))
 | none=>lW E fx op none cur k
def opT (op:Op) (d:Option Nat) (cur:TSt) (k:KE ρ):Option ρ:=cond (Kf E fx op cur) (Ma E fx op d cur k) none
def KV:List (Nat × cY) → List (Nat × cY) → List (Nat × cY)
 | l,[]=>l
 | l,x :: r=>KV (pA l x.1 x.2) r
def pB (cur:TSt) (d:Option Nat) (x:TSl) (wr:List (Nat × cY)):TSt:=⟨match d with | some d=>pA cur.tm d x | none=>cur.tm,KV cur.hp wr⟩
def eE {ρ:Type}:List (Nat × TSl) → (List (Nat × TSl) → ρ) → ρ
 | [],k=>k []
 | x :: r,k=>match x with
  | (i,.dead)=>eE r fun r=>k ((i,.dead) :: r)
  | (i,.c (.v (.v t y)))=>eE r fun r=>k ((i,.c (.v (.v t y))) :: r)
  | (i,.c (.v y))=>eE r fun r=>k ((i,.c (.v y)) :: r)
  | (i,.c (.g y))=>eE r fun r=>k ((i,.c (.g y)) :: r)
  | (i,.t y)=>eE r fun r=>k ((i,.t y) :: r)
def GZ (cur:TSt) (t:Ty) (l:TL) (k:t.den → List Nat → Option ρ):Option ρ :=
 match l with
 | .v t' x=>sO t' t x fun x=>k x []
 | .nil=>GJ t fun x=>k x []
 | .own o=>match obT fx cur o with
  | some (.arr _ t' l)=>sO (.sl t') t l fun x=>k x [o]
  | _=>none
 | _=>none
def Ax (cur:TSt):(t:Ty) → List TL → (t.den → List Nat → List TL → Option ρ) → Option ρ
 | .pair a b,ls,k=>Ax cur a ls fun x os ls=>Ax cur b ls fun y ps ls=>k (x,y) (os ++ ps) ls
 | t,l :: ls,k=>GZ fx cur t l fun x os=>k x os ls
 | _,[],_=>none
def vi (cur:TSt) (te:Ty):List Operand → (List (Nat × TSl) → List Nat → Option ρ) → Option ρ
 | [],k=>k [] []
 | .tmp t :: r,k=>match pH cur.tm fx.tm t with
  | some (.c c)=>Ax fx cur te c.leaves fun x os rest=>match rest with
   | []=>vi cur te r fun ns ps=>k ((t,.c (match c with | .g _=>.g (dH te x) | .v _=>.v (match dH te x with | y :: _=>y | []=>.dead))) :: ns) (os ++ ps)
   | _=>none
  | _=>none
 | _ :: r,k=>vi cur te r k
def rY (os:List Nat) (x:TSl):TSl:=cond (x.gw.any (cm os)) .dead x
def xu (cur:TSt) (ns:List (Nat × TSl)) (os:List Nat):List (Nat × TSl):=ns ++ cur.tm.map fun x=>(x.1,rY os x.2)
def vj (cur:TSt) (os:List Nat):List (Nat × cY):=cur.hp.filter fun x=>!cm os x.1
def ownArgs (cur:TSt):List Operand → List Nat
 | []=>[]
 | .tmp t :: r=>match pH cur.tm fx.tm t with
  | some (.c (.v (.own o)))=>o :: ownArgs cur r
  | _=>ownArgs cur r
 | _ :: r=>ownArgs cur r
def ny (cur:TSt) (os:List Nat):TL → TL
 | .own o=>cond (cm os o) (match obT fx cur o with | some (.arr _ t l)=>.v (.sl t) l | _=>.own o) (.own o)
 | x=>x
def vk (cur:TSt) (os:List Nat):TC → TC
 | .v x=>.v (ny fx cur os x)
 | .g xs=>.g (xs.map (ny fx cur os))
def Cv (cur:TSt) (os:List Nat):TSl → TSl
 | .c c=>.c (vk fx cur os c)
 | .t l=>.t (l.map (vk fx cur os))
 | .dead=>.dead
def vm (cur:TSt) (os:List Nat):cY → cY
 | .box t cs=>.box t (cs.map (ny fx cur os))
 | .lit t cs=>.lit t (cs.map (ny fx cur os))
 | h=>h
def zTm (cur:TSt) (os:List Nat):List (Nat × TSl):=cur.tm.map fun x=>(x.1,rY os (Cv fx cur os x.2))
def zHp (cur:TSt) (os:List Nat):List (Nat × cY):=(cur.hp.filter fun x=>!cm os x.1).map fun x=>(x.1,vm fx cur os x.2)
def Mb:TL → Option Nat
 | .own o=>some o
 | _=>none
def sQ (cur:TSt):List Operand → List Nat
 | []=>[]
 | .tmp t :: r=>match pH cur.tm fx.tm t with
  | some (.c c)=>c.leaves.filterMap Mb ++ sQ cur r
  | _=>sQ cur r
 | _ :: r=>sQ cur r
def KW:TL → Bool
 | .nil=>true
 | _=>false
def DC (cur:TSt) (l:List Operand):Bool:=l.all fun x=>match evT fx cur da x with | .c c=>c.leaves.all fun y=>!KW y | _=>true
def KX (op:Op) (cur:TSt) (k:TSt → Option ρ):Option ρ :=
 match op with
 | .buildSlice t _ ps=>cond (DC fx cur (ps.toList.map (·.2)))
  (cond ((sQ fx cur (ps.toList.map (·.2))).all (fun o=>match look fx.hp o with | some _=>false | none=>true) && gj ⟨fk [] (zTm fx cur (sQ fx cur (ps.toList.map (·.2))) ++ fx.tm),fk [] (zHp fx cur (sQ fx cur (ps.toList.map (·.2))) ++ fx.hp)⟩) (k ⟨zTm fx cur (sQ fx cur (ps.toList.map (·.2))),zHp fx cur (sQ fx cur (ps.toList.map (·.2)))⟩) none)
  (match look E.H t with
  | some te=>vi fx cur te (ps.toList.map (·.2)) fun ns os =>
   cond (os.all (fun o=>match look fx.hp o with | some _=>false | none=>true) && gj ⟨fk [] (xu cur ns os ++ fx.tm),fk [] (vj cur os ++ fx.hp)⟩) (k ⟨xu cur ns os,vj cur os⟩) none
  | none=>none)
 | .call c =>
  cond ((ownArgs fx cur c.args.toList).all (fun o=>match look fx.hp o with | some _=>false | none=>true) && gj ⟨fk [] (zTm fx cur (ownArgs fx cur c.args.toList) ++ fx.tm),fk [] (zHp fx cur (ownArgs fx cur c.args.toList) ++ fx.hp)⟩) (k ⟨zTm fx cur (ownArgs fx cur c.args.toList),zHp fx cur (ownArgs fx cur c.args.toList)⟩) none
 | _=>none
def KY (o:Oper) (cur:TSt) (k:TSt → Option ρ):Option ρ :=
 match o.dst with
 | some d=>cond (cm E.fz d) (KX E fx o.op cur k) (k cur)
 | none=>k cur
def Cw (ops:List Oper) (cur:TSt) (g:Nat):Option (Nat × TSl) :=
 match ops[g]? with
 | some o=>match o.dst with | some d=>some (d,(pH cur.tm fx.tm d).getD .dead) | none=>none
 | none=>none
def wL (ops:List Oper):List Oper → TSt → (TSt → Option ρ) → Option ρ
 | [],cur,K=>K cur
 | o :: rest,cur,K=>match o.guard with
  | none=>KY E fx o cur fun cur=>opT E fx o.op o.dst cur fun x wr=>eE (pB cur o.dst x wr).tm fun tm=>wL ops rest ⟨tm,(pB cur o.dst x wr).hp⟩ K
  | some (g,b)=>match Cw fx ops cur g with
   | some (d,.c (.v (.v .bool c)))=>cond c
    (cond b (opT E fx o.op o.dst ⟨pA cur.tm d (tV .bool true),cur.hp⟩ fun x wr=>eE (pB ⟨pA cur.tm d (tV .bool true),cur.hp⟩ o.dst x wr).tm fun tm=>wL ops rest ⟨tm,(pB cur o.dst x wr).hp⟩ K) (wL ops rest (pB ⟨pA cur.tm d (tV .bool true),cur.hp⟩ o.dst (.t []) []) K))
    (cond b (wL ops rest (pB ⟨pA cur.tm d (tV .bool false),cur.hp⟩ o.dst (.t []) []) K) (opT E fx o.op o.dst ⟨pA cur.tm d (tV .bool false),cur.hp⟩ fun x wr=>eE (pB ⟨pA cur.tm d (tV .bool false),cur.hp⟩ o.dst x wr).tm fun tm=>wL ops rest ⟨tm,(pB cur o.dst x wr).hp⟩ K))
   | some (d,.t _)=>wL ops rest (pB cur o.dst (.t []) []) K
   | _=>none
end
inductive An where
 | no
 | seq (a b:An)
 | join (σ:Shp) (kt kh:List Nat) (pure:Bool) (a b:An)
 | cond (a b:An)
 | loop (σ:Shp) (kt kh:List Nat) (b:An)
 | one (a:An)
 | range (σ:Shp) (kt kh:List Nat) (a b:An)
 | hand (i:Nat)
def KZ {α:Type}:List α → Nat → Option α
 | [],_=>none
 | x :: _,0=>some x
 | _ :: r,i + 1=>KZ r i
noncomputable def den [Fuel] (E : Env) : Code → An → TSt → (ρ : Type) → DecidableEq ρ → TSt → (AEx → TSt → Option ρ) → Option ρ
  | .skip, _, fx, ρ, dq, cur, K => K .normal cur
  | .region _ ops _, _, fx, ρ, dq, cur, K => wL E fx ops.toList ops.toList cur fun c => K .normal c
  | .seq a b, an, fx, ρ, dq, cur, K => match an with
    | .seq x y => den E a x fx ρ dq cur fun e c => match e with | .normal => den E b y fx ρ dq c K | e => K e c
    | .join σ kt kh true x y => Bool.rec none
        ((den E a x (fR fx cur (bE cur σ kt kh) σ) (Tup σ.ps) (pW σ.ps) (vd fx cur σ kt kh) fun e c => match e with
          | .normal => Bool.rec none (fitAll (fR fx cur (bE cur σ kt kh) σ) c σ (fR fx cur (bE cur σ kt kh) σ) some) (oE (fR fx cur (bE cur σ kt kh) σ) c σ)
          | _ => none).bind fun v => den E b y fx ρ dq ⟨(σ.at v).tm ++ (bE cur σ kt kh).tm, (σ.at v).hp ++ (bE cur σ kt kh).hp⟩ K)
        (gj (fR fx cur (bE cur σ kt kh) σ) && kK fx cur (bE cur σ kt kh) σ)
    | .join σ kt kh false x y => Bool.rec none
        ((den E a x (fR fx cur (bE cur σ kt kh) σ) (Tup σ.ps ⊕ ρ) (@instDecidableEqSum _ _ (pW σ.ps) dq) (vd fx cur σ kt kh) fun e c => match e with
          | .normal => Bool.rec none (fitAll (fR fx cur (bE cur σ kt kh) σ) c σ (fR fx cur (bE cur σ kt kh) σ) fun v => some (.inl v)) (oE (fR fx cur (bE cur σ kt kh) σ) c σ)
          | e => (K e ⟨c.tm ++ (bE cur σ kt kh).tm, c.hp ++ (bE cur σ kt kh).hp⟩).map .inr).bind fun o => match o with
            | .inl v => den E b y fx ρ dq ⟨(σ.at v).tm ++ (bE cur σ kt kh).tm, (σ.at v).hp ++ (bE cur σ kt kh).hp⟩ K
            | .inr r => some r)
        (gj (fR fx cur (bE cur σ kt kh) σ) && kK fx cur (bE cur σ kt kh) σ)
    | .hand i => match KZ E.G6 i with
      | some h => (h fx cur).bind fun c => K .normal c
      | none => none
    | _ => none
  | .cond c a b, an, fx, ρ, dq, cur, K => match an with
    | .cond x y => match evT fx cur da c with
      | .c (.v (.v .bool t)) => Bool.rec (den E b y fx ρ dq cur K) (den E a x fx ρ dq cur K) t
      | .c (.v (.nb pos t l)) => Bool.rec (qF l (den E b y fx ρ dq cur K) (den E a x fx ρ dq cur K)) (qF l (den E a x fx ρ dq cur K) (den E b y fx ρ dq cur K)) pos
      | _ => none
    | _ => none
  | .block id b, an, fx, ρ, dq, cur, K => match an with
    | .one x => den E b x fx ρ dq cur fun e c => match e with | .exit i => Bool.rec (K (.exit i) c) (K .normal c) (Nat.beq i id) | e => K e c
    | _ => none
  | .loop b, an, fx, ρ, dq, cur, K => match an with
    | .loop σ kt kh x => Bool.rec none
        (fitAll fx cur σ (fR fx cur (bE cur σ kt kh) σ) fun v0 => bO (fun v => den E b x (fR fx cur (bE cur σ kt kh) σ) (Tup σ.ps ⊕ ρ) (@instDecidableEqSum _ _ (pW σ.ps) dq) (σ.at v) fun e c => match e with
          | .normal => Bool.rec none (fitAll (fR fx cur (bE cur σ kt kh) σ) c σ (fR fx cur (bE cur σ kt kh) σ) fun v => some (.inl v)) (oE (fR fx cur (bE cur σ kt kh) σ) c σ)
          | e => (K e ⟨c.tm ++ (bE cur σ kt kh).tm, c.hp ++ (bE cur σ kt kh).hp⟩).map .inr) v0)
        (gj (fR fx cur (bE cur σ kt kh) σ) && kK fx cur (bE cur σ kt kh) σ)
    | _ => none
  | .exit id, _, fx, ρ, dq, cur, K => K (.exit id) cur
  | .ret, _, fx, ρ, dq, cur, K => K .ret cur
  | .scope b, an, fx, ρ, dq, cur, K => match an with
    | .one x => den E b x fx ρ dq cur K
    | _ => none
  | .rangeFunc g ps a b, an, fx, ρ, dq, cur, K => match an with
    | .range σ kt kh x y => match g with
      | .tmp tg => match look (fR fx cur (bE cur σ kt kh) σ).tm tg with
        | some (.c (.v (.fn f2 os))) => match tE cur.hp os with
          | some ol => match E.its.find? (fun it => Nat.beq (2 * it.f) f2) with
            | some it => Bool.rec none
              ((it.fn ol).bind fun xs => fitAll fx (lV cur os (it.at_ ol 0)) σ (fxK fx cur os (it.at_ ol 0) σ kt kh) fun v0 =>
                (oF (fun k row v => den E a x (fxK fx cur os (it.at_ ol k) σ kt kh) (Tup σ.ps ⊕ ρ) (@instDecidableEqSum _ _ (pW σ.ps) dq) ⟨ps.toList.zip ((it.row row).map TSl.c) ++ (σ.at v).tm, (σ.at v).hp⟩ fun e c => match e with
                  | .normal => den E b y (fxK fx cur os (it.at_ ol k) σ kt kh) (Tup σ.ps ⊕ ρ) (@instDecidableEqSum _ _ (pW σ.ps) dq) c fun e c => match e with
                    | .normal => Bool.rec none (fitAll (fxK fx cur os (it.at_ ol k) σ kt kh) c σ (fxK fx cur os (it.at_ ol k) σ kt kh) fun v => some (.inl v)) (oE (fxK fx cur os (it.at_ ol k) σ kt kh) c σ)
                    | e => (K e ⟨(c.tm.filter fun x => !cm (ps.toList ++ fC a ++ fC b) x.1) ++ (bE (lV cur os (it.at_ ol k)) σ kt kh).tm, c.hp ++ (bE (lV cur os (it.at_ ol k)) σ kt kh).hp⟩).map .inr
                  | _ => none) 0 xs v0).bind fun o => match o with
                | .inl v => K .normal ⟨(σ.at v).tm ++ (bE (lV cur os (it.at_ ol xs.length)) σ kt kh).tm, (σ.at v).hp ++ (bE (lV cur os (it.at_ ol xs.length)) σ kt kh).hp⟩
                | .inr r => some r)
              (DB fx cur σ kt kh os tg (ps.toList ++ fC a ++ fC b) it.cs.length ps.toList.length)
            | none => none
          | none => none
        | _ => none
      | _ => none
    | _ => none
  | _, _, _, _, _, _, _ => none
def I5 (P:Program) (cur:TSt):ResultVar → Option TC
 | .tmp t=>match look cur.tm t with | some (.c c)=>some c | _=>none
 | .cell t ty=>match look cur.tm t with
  | some (.c (.v (.loc o off)))=>match look cur.hp o,fZ P ty with
   | some (.box _ cs),some n=>Ci cs off n (fJ P ty)
   | _,_=>none
  | _=>none
def Ay (P:Program) (cur:TSt):List ResultVar → Option (List TC)
 | []=>some []
 | r :: rs=>match I5 P cur r,Ay P cur rs with | some c,some l=>some (c :: l) | _,_=>none
def rZ:Nat → List TC → List (Nat × TSl)
 | _,[]=>[]
 | i,c :: r=>(i,.c c) :: rZ (i + 1) r
def G4:Nat → List SSh → List (Nat × SSh)
 | _,[]=>[]
 | i,c :: r=>(i,c) :: G4 (i + 1) r
noncomputable def K0 (P:Program) (rs:List ResultVar) (kin:List (Nat × cY)) (out:RSh) (gR:List (Nat × OSh)) (qs:List Ty) (cur:TSt):Option (Tup qs) :=
 match Ay P ⟨cur.tm,cur.hp ++ kin⟩ rs with
 | some cs=>Bool.rec none (fitAll ⟨[],kin⟩ ⟨rZ 0 cs,cur.hp⟩ ⟨G4 0 (out.fU.map .c),gR,qs⟩ ⟨[],kin⟩ some) (oE ⟨[],kin⟩ ⟨[],cur.hp⟩ ⟨[],[],[]⟩ && oD (aW kin) && Nat.beq cs.length out.fU.length && (match out with | .one _=>true | .tup l=>!Nat.beq l.length 1))
 | none=>none
def tj:List SSh → List Dyn → List TSl × List Dyn
 | [],ds=>([],ds)
 | x :: r,ds=>match u7 x ds with | (y,ds)=>match tj r ds with | (l,ds)=>(y :: l,ds)
def EU:Nat → List TSl → List (Nat × TSl)
 | _,[]=>[]
 | i,c :: r=>(i,c) :: EU (i + 1) r
noncomputable def fnT [Fuel] (E:Env) (fn:Func) (an:An) (ain:List SSh) (kin hin:List (Nat × OSh)) (ps:List Ty) (out:RSh) (gR:List (Nat × OSh)) (qs:List Ty) (x:Tup ps):Option (Tup qs) :=
 match fn.body with
 | some c=>match tj ain (jH ps x) with
  | (as,ds)=>match lT kin ds with
   | (ks,ds)=>match lT hin ds with
    | (hs,_)=>Bool.rec none (den E c an ⟨[],ks⟩ (Tup qs) (pW qs) ⟨EU 0 as,hs⟩ fun e c=>match e with
     | .exit _=>none
     | _=>K0 E.P fn.results.toList ks out gR qs c) (gj ⟨[],ks⟩)
 | none=>none
end Go.Lad
