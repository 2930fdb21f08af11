import Derived.Test.YtkpefpjpadahiaaGreatDoorD1
namespace Go.Lad
set_option linter.unusedVariables false
set_option linter.unusedSimpArgs false
open Go.RowKit
def Tup:List Ty->Type
 | []=>Unit
 | [t]=>t.den
 | t::u::r=>t.den×Tup (u::r)
noncomputable def xU:(t:Ty)->DecidableEq t.den
 | .any=>Np
 | .int _=>inferInstanceAs (DecidableEq Int)
 | .bool=>inferInstanceAs (DecidableEq Bool)
 | .str=>inferInstanceAs (DecidableEq (List UInt8))
 | .sl e=>@instDecidableEqList e.den (xU e)
 | .pair a b=>@instDecidableEqProd a.den b.den (xU a) (xU b)
 | .slu i=>fun a b=>Classical.propDecidable (a=b)
 | .map _ e=>@instDecidableEqList (Int×List e.den) (@instDecidableEqProd Int (List e.den) inferInstance (@instDecidableEqList e.den (xU e)))
noncomputable def vU:(ps:List Ty)->DecidableEq (Tup ps)
 | []=>inferInstanceAs (DecidableEq Unit)
 | [t]=>xU t
 | t::u::r=>@instDecidableEqProd t.den (Tup (u::r)) (xU t) (vU (u::r))
def kR:(ps:List Ty)->Tup ps->List Dyn
 | [],_=>[]
 | [t],x=>[⟨t,x⟩]
 | t::u::r,x=>⟨t,x.1⟩::kR (u::r) x.2
def AY {ρ:Type}:(ps:List Ty)->List Dyn->(Tup ps->Option ρ)->Option ρ
 | [],[],k=>k ()
 | [t],[d],k=>kP d.t t d.x k
 | t::u::r,d::ds,k=>kP d.t t d.x fun x=>AY (u::r) ds fun y=>k (x,y)
 | _,_,_=>none
inductive LSh where
 | dead
 | d (t:Ty)
 | nil
 | own (o:Nat)
 | loc (o off:Nat)
 | mp (o:Nat)
 | fn (f:FuncId) (caps:List Nat)
 | pn
 | mn
 | bc (b:Bool)
 | ip (t:Ty)
 | vp (o:Nat)
 | ps (o:Nat)
 | ni
inductive CSh where
 | v (x:LSh)
 | g (xs:List LSh)
 | a (t:Ty)
inductive SSh where
 | dead
 | c (x:CSh)
 | t (l:List CSh)
inductive OSh where
 | gone
 | box (t:TypeId) (xs:List LSh)
 | arr (e:TypeId) (t:Ty)
 | fO (k:IntKind) (agg:Bool) (t:Ty)
 | fa (agg:Bool) (t:Ty)
 | fb (k:IntKind) (agg:Bool) (t:Ty)
 | kV (k:IntKind) (e:TypeId) (t:Ty)
structure Shp where
 tm:List (Nat×SSh)
 hp:List (Nat×OSh)
 ps:List Ty
def mkL:LSh->List Dyn->TL×List Dyn
 | .dead,ds=>(.dead,ds)
 | .d t,d::r=>match Ty.same d.t t with | some h=>(.v t (lf h.down d.x),r) | none=>(.dead,r)
 | .d _,[]=>(.dead,[])
 | .nil,ds=>(.nil,ds)
 | .own o,ds=>(.own o,ds)
 | .loc o off,ds=>(.loc o off,ds)
 | .mp o,ds=>(.mp o,ds)
 | .fn f caps,ds=>(.fn f caps,ds)
 | .pn,ds=>(.oth (.pointer none),ds)
 | .mn,ds=>(.oth (.map none),ds)
 | .bc b,ds=>(.v .bool b,ds)
 | .ip t,d::r=>match Ty.same d.t t with | some h=>(.ip t (lf h.down d.x) 0,r) | none=>(.dead,r)
 | .ip _,[]=>(.dead,[])
 | .vp o,ds=>(.el o 0 0 1,ds)
 | .ps o,ds=>(.ps o,ds)
 | .ni,ds=>(.oth .nilIface,ds)
def qP:List LSh->List Dyn->List TL×List Dyn
 | [],ds=>([],ds)
 | x::r,ds=>match mkL x ds with | (y,ds)=>match qP r ds with | (l,ds)=>(y::l,ds)
def mkC:CSh->List Dyn->TC×List Dyn
 | .v x,ds=>match mkL x ds with | (y,ds)=>(.v y,ds)
 | .g xs,ds=>match qP xs ds with | (l,ds)=>(.g l,ds)
 | .a t,d::r=>match Ty.same d.t t with | some h=>(.g (dR t (lf h.down d.x)),r) | none=>(.g [],r)
 | .a _,[]=>(.g [],[])
def kW:List CSh->List Dyn->List TC×List Dyn
 | [],ds=>([],ds)
 | x::r,ds=>match mkC x ds with | (y,ds)=>match kW r ds with | (l,ds)=>(y::l,ds)
def xi:SSh->List Dyn->TSl×List Dyn
 | .dead,ds=>(.dead,ds)
 | .c x,ds=>match mkC x ds with | (y,ds)=>(.c y,ds)
 | .t l,ds=>match kW l ds with | (l,ds)=>(.t l,ds)
def F9:List (Nat×SSh)->List Dyn->List (Nat×TSl)×List Dyn
 | [],ds=>([],ds)
 | x::r,ds=>match xi x.2 ds with | (y,ds)=>match F9 r ds with | (l,ds)=>((x.1,y)::l,ds)
def jE (t:Ty) (d:Dyn):List t.den:=match Ty.same d.t (.sl t) with | some h=>lf (b := .sl t) h.down d.x | none=>[]
def IC (k:IntKind) (t:Ty) (d:Dyn):List (Int×List t.den):=match Ty.same d.t (.map k t) with | some h=>lf (b := .map k t) h.down d.x | none=>[]
def mkO:OSh->List Dyn->cV×List Dyn
 | .gone,ds=>(.gone,ds)
 | .box t xs,ds=>match qP xs ds with | (l,ds)=>(.box t l,ds)
 | .arr e t,d::ds=>(.arr e t (jE t d),ds)
 | .fO k agg t,d::ds=>(.fO k agg t (jE (.pair (.int k) t) d),ds)
 | .fa agg t,d::ds=>(.fa agg t (jE (.pair .str t) d),ds)
 | .fb k agg t,d::ds=>(.fb k agg t (jE (.pair (.pair (.int k) .str) t) d),ds)
 | .kV k e t,d::ds=>(.kV k e t (IC k t d) none,ds)
 | .arr e t,[]=>(.gone,[])
 | .kV k e t,[]=>(.gone,[])
 | .fO k agg t,[]=>(.gone,[])
 | .fa agg t,[]=>(.gone,[])
 | .fb k agg t,[]=>(.gone,[])
def mU:List (Nat×OSh)->List Dyn->List (Nat×cV)×List Dyn
 | [],ds=>([],ds)
 | x::r,ds=>match mkO x.2 ds with | (y,ds)=>match mU r ds with | (l,ds)=>((x.1,y)::l,ds)
def Shp.mk' (σ:Shp) (ds:List Dyn):TSt:=match F9 σ.tm ds with | (tm,ds)=>match mU σ.hp ds with | (hp,_)=>⟨tm,hp⟩
def Shp.at (σ:Shp) (x:Tup σ.ps):TSt:=σ.mk' (kR σ.ps x)
structure FS where
 m:List (Nat×Nat)
 lM:List Nat
 frz:List Nat
def cr:List Nat->Nat->Bool
 | [],_=>false
 | x::r,k=>cond (Nat.beq k x) true (cr r k)
def KY (l:List (Nat×Nat)):List Nat:=l.map (·.1)
def sS (l:List (Nat×Nat)):List Nat:=l.map (·.2)
def Dj:List (Nat×Nat)->Nat->Nat->Bool
 | [],_,_=>false
 | x::r,a,b=>cond (Nat.beq a x.1 && Nat.beq b x.2) true (Dj r a b)
def FS.ren (f:FS) (o o2:Nat):FS:=cond (Dj f.m o o2) f { f with m:=(o,o2)::f.m }
abbrev KF (ρ:Type):=FS->List Dyn->Option ρ
def vV:List Nat->List Nat->FS->Option FS
 | [],[],f=>some f
 | x::xs,y::ys,f=>vV xs ys (f.ren x y)
 | _,_,_=>none
section
variable {ρ:Type} (fx cur:TSt)
def AZ (t:Ty) (l:TL) (f:FS) (k:t.den->FS->Option ρ):Option ρ :=
 match l with
 | .v t' x=>tK t' t x fun x=>k x f
 | .nil=>Im t fun x=>k x f
 | .own o=>match obT fx cur o with
  | some (.arr _ t' l)=>tK (.sl t') t l fun x=>k x { f with frz:=o::f.frz }
  | _=>none
 | .mp o=>match obT fx cur o with
  | some (.kV kd _ t' m none)=>kP (.map kd t') t m fun x=>k x { f with frz:=o::f.frz }
  | _=>none
 | _=>none
def xV:(t:Ty)->List TL->FS->(t.den->FS->List TL->Option ρ)->Option ρ
 | .pair a b,ls,f,k=>xV a ls f fun x f ls=>xV b ls f fun y f ls=>k (x,y) f ls
 | t,l::ls,f,k=>AZ fx cur t l f fun x f=>k x f ls
 | _,[],_,_=>none
def KZ (te:Ty):List TL->FS->(List te.den->FS->Option ρ)->Option ρ
 | [],f,k=>k [] f
 | x::r,f,k=>AZ fx cur te x f fun x f=>KZ te r f fun l f=>k (x::l) f
def ID (t:Ty) (o:Nat) (cs:List TL) (f:FS) (k:KF ρ):Option ρ :=
 match t with
 | .sl te=>cond (uq te) (KZ fx cur te cs f fun l f=>k { f with frz:=o::f.frz } [⟨.sl te,l⟩]) none
 | _=>none
def bEq:Bool->Bool->Bool
 | true,c=>c
 | false,c=>!c
def K0 (sh:LSh) (x:TL) (f:FS) (k:KF ρ):Option ρ :=
 match sh with
 | .dead=>k f []
 | .d t=>match x with
  | .v t' x=>kP t' t x fun x=>k f [⟨t,x⟩]
  | .nil=>match t with | .sl e=>k f [⟨.sl e,([]:List e.den)⟩] | _=>none
  | .tl t' l=>kP (.sl t') t l fun x=>k f [⟨t,x⟩]
  | .own o=>match obT fx cur o with | some (.arr _ t' l)=>kP (.sl t') t l fun x=>k { f with frz:=o::f.frz } [⟨t,x⟩] | some (.lit _ cs)=>ID fx cur t o cs f k | _=>none
  | .sv o a b z=>match obT fx cur o with | some (.arr _ t' l)=>cond (Nat.beq z t'.cells && Nat.ble 1 z) ((cut l a b).bind fun l=>kP (.sl t') t l fun x=>k { f with frz:=o::f.frz } [⟨t,x⟩]) none | _=>none
  | _=>none
 | .nil=>match x with | .nil=>k f [] | _=>none
 | .own o2=>match x with | .own o=>k (f.ren o o2) [] | .nil=>k { f with lM:=o2::f.lM } [] | _=>none
 | .loc o2 off2=>match x with | .loc o off=>cond (Nat.beq off off2) (k (f.ren o o2) []) none | _=>none
 | .mp o2=>match x with | .mp o=>k (f.ren o o2) [] | _=>none
 | .fn g2 caps2=>match x with | .fn g caps=>cond (Nat.beq g g2) (match vV caps caps2 f with | some f=>k f [] | none=>none) none | _=>none
 | .pn=>match x with | .oth (.pointer none)=>k f [] | _=>none
 | .mn=>match x with | .oth (.map none)=>k f [] | _=>none
 | .bc b=>match x with | .v .bool c=>cond (bEq b c) (k f []) none | _=>none
 | .ip t=>match x with
  | .loc o off=>cond (Nat.beq off 0) (match obT fx cur o with
   | some (.box _ xs)=>xV fx cur t xs f fun x f rest=>match rest with | []=>k { f with frz:=o::f.frz } [⟨t,x⟩] | _=>none
   | _=>none) none
  | .ip t' x off=>cond (Nat.beq off 0) (kP t' t x fun x=>k f [⟨t,x⟩]) none
  | _=>none
 | .vp o2=>match x with | .el o n 0 1=>cond (eqZ n 0) (k (f.ren o o2) []) none | _=>none
 | .ni=>match x with | .oth .nilIface=>k f [] | _=>none
 | .ps o2=>match x with | .ps o=>k (f.ren o o2) [] | .loc o off=>cond (Nat.beq off 0) (k (f.ren o o2) []) none | .oth (.pointer none)=>cond (cr (sS f.m) o2) (k f []) none | _=>none
def A0:List LSh->List TL->FS->KF ρ->Option ρ
 | [],[],f,k=>k f []
 | s::ss,x::xs,f,k=>K0 fx cur s x f fun f ds=>A0 ss xs f fun f es=>k f (ds++es)
 | _,_,_,_=>none
def K1:CSh->TC->FS->KF ρ->Option ρ
 | .a t,.g xs,f,k=>xV fx cur t xs f fun x f rest=>match rest with | []=>k f [⟨t,x⟩] | _=>none
 | .v s,.v x,f,k=>K0 fx cur s x f k
 | .g ss,.g xs,f,k=>A0 fx cur ss xs f k
 | _,_,_,_=>none
def Et:List CSh->List TC->FS->KF ρ->Option ρ
 | [],[],f,k=>k f []
 | s::ss,x::xs,f,k=>K1 fx cur s x f fun f ds=>Et ss xs f fun f es=>k f (ds++es)
 | _,_,_,_=>none
def K2 (s:SSh) (x:TSl) (f:FS) (k:KF ρ):Option ρ :=
 match s with
 | .dead=>k f []
 | .c s=>match x with | .c x=>K1 fx cur s x f k | _=>none
 | .t ss=>match x with | .t xs=>Et fx cur ss xs f k | _=>none
def Eu:List (Nat×SSh)->FS->KF ρ->Option ρ
 | [],f,k=>k f []
 | s::ss,f,k=>K2 fx cur s.2 ((qx cur.tm fx.tm s.1).getD .dead) f fun f ds=>Eu ss f fun f es=>k f (ds++es)
def A1:List (Nat×Nat)->Nat->Option Nat
 | [],_=>none
 | x::r,k=>cond (Nat.beq k x.2) (some x.1) (A1 r k)
def NL (s:OSh) (o:Option cV) (f:FS) (k:KF ρ):Option ρ :=
 match s with
 | .gone=>match o with | some _=>k f [] | none=>none
 | .box t ss=>match o with | some (.box t' xs)=>cond (Nat.beq t t') (A0 fx cur ss xs f k) none | _=>none
 | .arr e t=>match o with | some (.arr e' t' l)=>cond (Nat.beq e e') (kP (.sl t') (.sl t) l fun l=>k f [⟨.sl t,l⟩]) none | _=>none
 | .fO kd agg t=>match o with | some (.fO kd' agg' t' m)=>cond (agg == agg') (kP (.sl (.pair (.int kd') t')) (.sl (.pair (.int kd) t)) m fun l=>k f [⟨.sl (.pair (.int kd) t),l⟩]) none | _=>none
 | .fa agg t=>match o with | some (.fa agg' t' m)=>cond (agg == agg') (kP (.sl (.pair .str t')) (.sl (.pair .str t)) m fun l=>k f [⟨.sl (.pair .str t),l⟩]) none | _=>none
 | .kV kd e t=>match o with | some (.kV kd' e' t' m none)=>cond (Nat.beq e e') (kP (.map kd' t') (.map kd t) m fun l=>k f [⟨.map kd t,l⟩]) none | _=>none
 | .fb kd agg t=>match o with | some (.fb kd' agg' t' m)=>cond (agg == agg') (kP (.sl (.pair (.pair (.int kd') .str) t')) (.sl (.pair (.pair (.int kd) .str) t)) m fun l=>k f [⟨.sl (.pair (.pair (.int kd) .str) t),l⟩]) none | _=>none
def tM:List (Nat×OSh)->FS->KF ρ->Option ρ
 | [],f,k=>k f []
 | s::ss,f,k=>match A1 f.m s.1 with
  | some o=>NL fx cur s.2 (obT fx cur o) f fun f ds=>tM ss f fun f es=>k f (ds++es)
  | none=>match s.2 with
   | .arr e t=>tM ss { f with lM:=s.1::f.lM } fun f es=>k f (⟨.sl t,([]:List t.den)⟩::es)
   | .gone=>tM ss f k
   | _=>none
end
def qQ:List Nat->Bool
 | []=>true
 | x::r=>!cr r x && qQ r
def bh {α:Type} (l:List (Nat×α)):List Nat:=l.map (·.1)
def FS.ok (f:FS) (hk:List Nat) (pin:Bool):Bool :=
 qQ (KY f.m) && qQ (sS f.m) && f.m.all (fun x=>cr hk x.2 && (!pin || Nat.ble (x.2+1) 1000000 || Nat.beq x.1 x.2)) && f.frz.all (fun o=>!cr (KY f.m) o) && f.lM.all (fun o=>!cr (sS f.m) o && cr hk o && Nat.ble (o+1) 1000000)
def A3:List (Nat×OSh)->List (Nat×Nat)
 | []=>[]
 | x::r=>match x.2 with
  | .gone=>A3 r
  | _=>cond (Nat.ble 1000000 x.1) ((x.1,x.1)::A3 r) (A3 r)
def fitAll {ρ:Type} (fx cur:TSt) (σ:Shp) (fx2:TSt) (k:Tup σ.ps->Option ρ):Option ρ :=
 Eu fx cur σ.tm ⟨(fx2.hp.map fun x=>(x.1,x.1))++A3 σ.hp,[],[]⟩ fun f ds=>tM fx cur σ.hp f fun f es =>
  cond (f.ok (bh σ.hp++bh fx2.hp) true) (AY σ.ps (ds++es) k) none
def TSl.Dk:TSl->Bool
 | .dead=>true
 | _=>false
def qR (fx cur:TSt) (σ:Shp):Bool :=
 cur.tm.all (fun x=>cr (bh σ.tm) x.1 || (match look fx.tm x.1 with | some y=>y.Dk | none=>true)) && cur.hp.all (fun x=>cr (bh σ.hp) x.1 || (match look fx.hp x.1 with | some _=>false | none=>true))
def TL.ik:TL->List Nat
 | .loc o _ | .own o | .el o _ _ _ | .mp o | .sv o _ _ _ | .ps o=>[o]
 | .fn _ caps=>caps
 | _=>[]
def TSl.ik:TSl->List Nat
 | .dead=>[]
 | .c x=>x.leaves.flatMap TL.ik
 | .t l=>l.flatMap fun c=>c.leaves.flatMap TL.ik
def cV.ik:cV->List Nat
 | .box _ cs=>cs.flatMap TL.ik
 | .lit _ cs=>cs.flatMap TL.ik
 | .ql _ _ _ _ _ d=>[d]
 | _=>[]
def jd (fx:TSt):Bool:=fx.tm.all (fun x=>x.2.ik.all (cr (bh fx.hp))) && fx.hp.all (fun x=>x.2.ik.all (cr (bh fx.hp)))
def cu (cur:TSt) (σ:Shp) (kt kh:List Nat):TSt :=
 ⟨((cur.tm.filter fun x=>!cr (bh σ.tm) x.1).map fun x=>(x.1,cond (cr kt x.1) x.2 .dead))++(bh σ.tm).map fun k=>(k,.dead),cur.hp.filter fun x=>!cr (bh σ.hp) x.1 && cr kh x.1⟩
def fS {α:Type}:List Nat->List (Nat×α)->List (Nat×α)
 | _,[]=>[]
 | seen,x::r=>cond (cr seen x.1) (fS seen r) (x::fS (x.1::seen) r)
def jm (fx cur kept:TSt) (σ:Shp):TSt :=
 ⟨fS [] (kept.tm++fx.tm.filter fun x=>!cr (bh cur.tm) x.1 && !cr (bh σ.tm) x.1),fS [] (kept.hp++fx.hp.filter fun x=>!cr (bh cur.hp) x.1 && !cr (bh σ.hp) x.1)⟩
def vW (fx cur:TSt) (σ:Shp) (kt kh:List Nat):TSt :=
 ⟨(cur.tm.filter fun x=>cr (bh σ.tm) x.1 || !cr kt x.1)++fx.tm.filter fun x=>cr (bh σ.tm) x.1 && !cr (bh cur.tm) x.1,cur.hp.filter fun x=>cr (bh σ.hp) x.1 || !cr kh x.1⟩
def qS (fx cur kept:TSt) (σ:Shp):Bool :=
 cur.hp.all (fun x=>cr (bh σ.hp) x.1 || cr (bh kept.hp) x.1 || (match look fx.hp x.1 with | some _=>false | none=>true)) && σ.hp.all fun x=>match look fx.hp x.1 with | some _=>false | none=>true
inductive RSh where
 | one (c:CSh)
 | tup (l:List CSh)
structure Con where
 f:FuncId
 ain:List SSh
 kin:List (Nat×OSh)
 hin:List (Nat×OSh)
 ps:List Ty
 out:RSh
 iR:List (Nat×OSh)
 qs:List Ty
 fn:Tup ps->Option (Tup qs)
def rnT (ρ:List (Nat×Nat)) (o:Nat):Nat:=match look ρ o with | some x=>x | none=>o
def ue (ρ:List (Nat×Nat)):TL->TL
 | .loc o f=>.loc (rnT ρ o) f
 | .own o=>.own (rnT ρ o)
 | .el o i f z=>.el (rnT ρ o) i f z
 | .mp o=>.mp (rnT ρ o)
 | .fn f caps=>.fn f (caps.map (rnT ρ))
 | .sv o a b z=>.sv (rnT ρ o) a b z
 | .ps o=>.ps (rnT ρ o)
 | x=>x
def IE (ρ:List (Nat×Nat)):TC->TC
 | .v x=>.v (ue ρ x)
 | .g xs=>.g (xs.map (ue ρ))
def uf (ρ:List (Nat×Nat)):cV->cV
 | .box t cs=>.box t (cs.map (ue ρ))
 | .lit t cs=>.lit t (cs.map (ue ρ))
 | .ql _ _ _ _ _ _=>.gone
 | h=>h
def LSh.gd:LSh->Bool
 | .d t=>t.gd
 | .ip _=>false
 | _=>true
def CSh.leaves:CSh->List LSh
 | CSh.v x=>[x]
 | CSh.g xs=>xs
 | CSh.a t=>[.d t]
def RSh.eH:RSh->List CSh
 | .one c=>[c]
 | .tup l=>l
def OSh.gd:OSh->Bool
 | .box _ xs=>xs.all LSh.gd
 | .arr _ t=>t.gd
 | .kV _ _ t=>t.gd
 | .fa _ t=>t.gd
 | _=>true
def LSh.vX:LSh->Bool
 | .ip _=>false
 | _=>true
def SSh.vX:SSh->Bool
 | .dead=>true
 | .c x=>x.leaves.all LSh.vX
 | .t l=>l.all fun c=>c.leaves.all LSh.vX
def Con.gd (c:Con):Bool:=c.out.eH.all (fun x=>x.leaves.all LSh.gd) && c.iR.all (fun x=>x.2.gd) && c.kin.all fun x=>x.2.gd
def lT (d:Nat) (m:List (Nat×Nat)):List (Nat×OSh)->List (Nat×Nat)
 | []=>[]
 | x::r=>cond (cr (sS m) x.1) (lT d m r) ((x.1,d+10000 * x.1)::lT d m r)
section
variable {ρ:Type} (fx cur:TSt)
def uv:List SSh->List TSl->FS->KF ρ->Option ρ
 | [],[],f,k=>k f []
 | s::ss,x::xs,f,k=>K2 fx cur s x f fun f ds=>uv ss xs f fun f es=>k f (ds++es)
 | _,_,_,_=>none
def kc:List LSh->List TL->Bool
 | [],[]=>true
 | .d _::ss,.v _ _::xs=>kc ss xs
 | .own _::ss,.own _::xs=>kc ss xs
 | .loc _ _::ss,.loc _ _::xs=>kc ss xs
 | .mp _::ss,.mp _::xs=>kc ss xs
 | .fn _ _::ss,.fn _ _::xs=>kc ss xs
 | .nil::ss,.nil::xs=>kc ss xs
 | .pn::ss,.oth _::xs=>kc ss xs
 | .mn::ss,.oth _::xs=>kc ss xs
 | .vp _::ss,.el _ _ _ _::xs=>kc ss xs
 | .ps _::ss,.ps _::xs=>kc ss xs
 | _,_=>false
def IG (s:OSh) (o:Option cV):Bool :=
 match s,o with
 | .box _ ss,some (.box _ xs)=>kc ss xs
 | .arr _ _,some (.arr _ _ _)=>true
 | .fO _ _ _,some (.fO _ _ _ _)=>true
 | .fa _ _,some (.fa _ _ _)=>true
 | .fb _ _ _,some (.fb _ _ _ _)=>true
 | .kV _ _ _,some (.kV _ _ _ _ _)=>true
 | _,_=>false
def pT (m:List (Nat×Nat)):List (Nat×OSh)->Bool
 | []=>true
 | s::ss=>(match A1 m s.1 with | some o=>IG s.2 (obT fx cur o) | none=>false) && pT m ss
def uw (r:RSh) (ρ:List (Nat×Nat)) (cs:List TC):TSl :=
 match r,cs with
 | .one _,[c]=>.c (IE ρ c)
 | _,cs=>.t (cs.map (IE ρ))
def vY (con:Con) (d:Nat) (args:List TSl) (k:KE ρ):Option ρ :=
 uv fx cur con.ain args ⟨[],[],[]⟩ fun f ds=>tM fx cur con.kin f fun f es=>tM fx cur con.hin f fun f gs =>
  cond (f.ok (bh con.kin++bh con.hin) false && (match f.lM with | []=>true | _=>false) && f.m.all (fun x=>Nat.ble 1000000 x.2 && cr (bh con.iR++bh con.kin) x.2 && (match obT fx cur x.1 with | some _=>true | none=>false)) && (match f.frz with | []=>true | _=>con.gd) && qQ (bh con.iR++bh con.kin) && con.iR.all (fun x=>cr (sS f.m) x.1 || (Nat.ble (x.1+1) 50 && mZ fx cur (d+10000 * x.1))) && pT fx cur f.m con.kin)
   (AY con.ps (ds++(es++gs)) fun x=>(con.fn x).bind fun r=>match kW con.out.eH (kR con.qs r) with
    | (cs,ds)=>match mU con.iR ds with
     | (hs,_)=>k (uw con.out (f.m.map (fun x=>(x.2,x.1))++lT d f.m con.iR) cs) (hs.map fun x=>(rnT (f.m.map (fun x=>(x.2,x.1))++lT d f.m con.iR) x.1,uf (f.m.map (fun x=>(x.2,x.1))++lT d f.m con.iR) x.2))) none
end
def Ev (Φ:List Con) (sel:List (Nat×Nat)) (f:FuncId) (d:Nat):Option Con :=
 match look sel d with
 | some i=>match Φ[i]? with | some c=>cond (Nat.beq c.f f) (some c) none | none=>none
 | none=>Φ.find? fun c=>Nat.beq c.f f
structure Iter where
 f:FuncId
 cs:List CSh
 ps:List Ty
 fn:List cV->Option (List (Tup ps))
 at_:List cV->Nat->List cV
def Iter.row (it:Iter) (x:Tup it.ps):List TC:=(kW it.cs (kR it.ps x)).1
structure Env where
 P:Program
 H:List (Nat×Ty)
 Φ:List Con
 sel:List (Nat×Nat)
 js:List Nat
 hs:List Nat
 fz:List Nat
 zs:List Nat
 ns:List Nat
 bs:List Nat
 its:List Iter:=[]
 IK:List (TSt->TSt->Option TSt):=[]
def xW:List TSl->Option (List Nat)
 | []=>some []
 | .c (.v (.loc o 0))::r=>match xW r with | some l=>some (o::l) | none=>none
 | _=>none
def rE (E:Env) (d:Option Nat):Bool:=match d with | some d'=>cr E.zs d' | none=>false
section
variable {ρ:Type} (E:Env) (fx:TSt)
def IH (fx cur:TSt) (args:List TSl):Bool:=args.all fun x=>x.ik.all fun i=>match obT fx cur i with | some (.lit _ _) | none=>false | _=>true
def orT {ρ:Type} (a b:Option ρ):Option ρ:=match a with | some r=>some r | none=>b
def K3 (hs:List Nat) (d:Nat) (wr:List (Nat×cV)):Bool:=hs.all fun e=>Nat.ble e 1999999 || wr.all fun x=>!Nat.beq (d+1000000 * (x.1+2)) e
def A4 (E:Env) (fx cur:TSt) (c:Call) (caps:List Nat) (f d:Nat) (con:Con) (k:KE ρ):Option ρ :=
 cond ((cr E.hs d || IH fx cur (cond (Nat.beq (f % 2) 0) (c.args.toList.map (evT fx cur cJ)++caps.map fun o=>tL (.loc o 0)) ((caps.map fun o=>tL (.loc o 0))++c.args.toList.map (evT fx cur cJ)))) && (match con.kin,con.hin with | [],[]=>con.ain.all SSh.vX || cr E.hs d | _,_=>cr E.hs d) && (match con.hin with | []=>true | _=>!cr E.hs (d+1000000))) (vY fx cur con d (cond (Nat.beq (f % 2) 0) (c.args.toList.map (evT fx cur cJ)++caps.map fun o=>tL (.loc o 0)) ((caps.map fun o=>tL (.loc o 0))++c.args.toList.map (evT fx cur cJ))) fun y wr=>cond (K3 E.hs d wr) (k y wr) none) none
def mV (op:Op) (d:Option Nat) (cur:TSt) (k:KE ρ):Option ρ :=
 let ev:=evT fx cur cJ
 match op with
 | .move x | .assign x=>MP (ev x) k
 | .pick c x y=>Io (ev c) (ev x) (ev y) k
 | .alloc t=>match rE E d with | true=>PM E.P E.H fx cur t d k | false=>C9 E.P fx cur t d k
 | .load t x=>Ip E.P fx cur t (ev x) k
 | .store t x v=>Da E.P fx cur t (ev x) (ev v) k
 | .nilCheck x=>Ns (ev x) k
 | .fieldAddr t x f=>qN E.P t f (ev x) k
 | .field t x f=>Db E.P t f (ev x) k
 | .indexAddr t x i=>NI E.P fx cur t (ev x) (ev i) k
 | .index t x i=>Dc E.P t (ev x) (ev i) k
 | .binOp b t x y _=>match rE E d with
  | true=>match MT b with | true=>MU E.P fx cur b t (ev x) (ev y) k | false=>Is b (ev x) (ev y) k
  | false=>match ev x,ev y with
   | .c (.g xs),.c (.g ys)=>NA E.P b t xs ys k
   | .c (.v (.oth .nilIface)),.c (.v (.oth .nilIface))=>tNI E.P b t (isC y) k
   | X,Y=>match OE b with | true=>tSh b X Y k | false=>Nx E.P b t X Y k
 | .unOp b _ x=>tUn b (ev x) k
 | .extract x i=>vO i (ev x) k
 | .build t ps=>De E.P t (ps.toList.map (·.1)) (ps.toList.map fun p=>ev p.2) k
 | .buildSlice t n ps=>match d with
  | some d'=>cond (cr E.zs d') (zd E.P E.H (cr E.ns d') t n (ps.toList.map (·.1)) (ps.toList.map fun p=>ev p.2) k) (vR E.P E.H fx cur t n (ps.toList.map (·.1)) (some d') (ps.toList.map fun p=>ev p.2) k)
  | none=>none
 | .convert s t x=>match rE E d with | true=>tCO E.P fx cur s t d (ev x) k | false=>It E.P fx cur s t (ev x) k
 | .slice t x none (some h) (some m)=>ND E.P t (ev x) (ev h) (ev m) k
 | .slice t x l h none=>match rE E d with | true=>Es E.P fx cur t l.isSome h.isSome d (ev x) ((l.toList++h.toList).map ev) k | false=>ze E.P fx cur t l.isSome h.isSome (ev x) ((l.toList++h.toList).map ev) k
 | .box t x=>NF E.P fx cur t d (ev x) k
 | .makeMap t none=>match rE E d with | true=>NK E.P E.H fx cur t d k | false=>vT E.P E.H fx cur t d k
 | .lookup t m x ok=>match ok,rE E d with | false,true=>OW E.P fx cur t d (ev m) (ev x) k | _,_=>Ix E.P fx cur E.H t ok (ev m) (ev x) k
 | .mapUpdate t m x v=>NJ E.P fx cur t (ev m) (ev x) (ev v) k
 | .mapEntry t m x=>F8 E.P fx cur t d (ev m) (ev x) k
 | .entryStore _ m st v=>AX fx cur (ev m) (ev st) (ev v) k
 | .makeFunc (.func f) first caps=>sR f first.size (xW ((first.toList++caps.toList).map ev)) k
 | .makeSlice t x y=>Df E.P E.H fx cur t d (ev x) (ev y) k
 | .call c=>match c.callee with
  | .builtin .len=>match c.args.toList,c.argTypes.toList with | [x],[t]=>NC E.P fx cur t (ev x) k | _,_=>none
  | .builtin .append=>match c.args.toList,c.argTypes.toList with | [x,y],[t,t']=>cond (Nat.beq t t') (match rE E d with | true=>Iy E.P fx cur t (ev x) (ev y) k | false=>xT E.P E.H fx cur t d (ev x) (ev y) k) (match rE E d with | true=>none | false=>IB E.P E.H fx cur t t' d (ev x) (ev y) k) | _,_=>none
  | .builtin .cap=>match c.args.toList,c.argTypes.toList with | [x],[t]=>PL E.P t (ev x) k | _,_=>none
  | .builtin .copy=>match c.args.toList,c.argTypes.toList with | [x,y],[t,u]=>OV E.P fx cur t u (ev x) (ev y) k | _,_=>none
  | .builtin .clear=>match c.args.toList,c.argTypes.toList with | [x],[t]=>Di E.P fx cur t (ev x) k | _,_=>none
  | .builtin .min=>match c.args.toList with | [x,y]=>uu false (ev x) (ev y) k | [x,y,z]=>rD false (ev x) (ev y) (ev z) k | _=>none
  | .builtin .max=>match c.args.toList with | [x,y]=>uu true (ev x) (ev y) k | [x,y,z]=>rD true (ev x) (ev y) (ev z) k | _=>none
  | .value g=>match ev g,d with
   | .c (.v (.fn f caps)),some d=>match Ev E.Φ E.sel (f / 2) d with
    | some con=>match look E.sel (d+1000000) with
     | none=>A4 E fx cur c caps f d con k
     | some _=>match Ev E.Φ E.sel (f / 2) (d+1000000) with
      | some con2=>orT (A4 E fx cur c caps f d con k) (A4 E fx cur c caps f d con2 k)
      | none=>none
    | none=>none
   | _,_=>none
  | _=>none
 | _=>none
def OX (os:List Operand) (cur:TSt):Bool:=os.all fun x=>match (evT fx cur cJ x).ik with | []=>true | _=>false
def NM (os:List Operand) (cur:TSt):Bool:=os.all fun x=>(evT fx cur cJ x).ik.all fun i=>match obT fx cur i with | some (.box _ _)=>true | _=>false
def NN (os:List Operand) (cur:TSt):Bool:=os.all fun x=>(evT fx cur cJ x).ik.all fun i=>match obT fx cur i with | some (.arr _ _ _)=>true | _=>false
def MV (op:Op) (cur:TSt):Bool:=match lI op with
 | some a=>E.bs.all fun e=>cond (Nat.beq (e / 1000000) (a+1)) ((evT fx cur cJ (.tmp a)).ik.all fun i=>cond (Nat.ble 500000 (e % 1000000)) (Nat.beq (i+500000) (e % 1000000)) (match obT fx cur i with | some (.box t _)=>Nat.beq t (e % 1000000) | _=>false)) true
 | none=>true
def OY (op:Op) (d:Option Nat) (cur:TSt) (k:KE ρ):Option ρ :=
 match d with
 | some d=>cond (cr E.ns d) (cond (OX fx (Op.bL op) cur) (mV E fx op (some d) cur k) none) (cond (cr E.bs d) (cond (cond (vl op) (NN fx (Op.bL op) cur) (NM fx (Op.bL op) cur)) (mV E fx op (some d) cur k) none) (mV E fx op (some d) cur k))
 | none=>mV E fx op none cur k
def opT (op:Op) (d:Option Nat) (cur:TSt) (k:KE ρ):Option ρ:=cond (MV E fx op cur) (OY E fx op d cur k) none
def NO:List (Nat×cV)->List (Nat×cV)->List (Nat×cV)
 | l,[]=>l
 | l,x::r=>NO (qp l x.1 x.2) r
def qq (cur:TSt) (d:Option Nat) (x:TSl) (wr:List (Nat×cV)):TSt:=⟨match d with | some d=>qp cur.tm d x | none=>cur.tm,NO cur.hp wr⟩
def eX {ρ:Type}:List (Nat×TSl)->(List (Nat×TSl)->ρ)->ρ
 | [],k=>k []
 | x::r,k=>match x with
  | (i,.dead)=>eX r fun r=>k ((i,.dead)::r)
  | (i,.c (.v (.v t y)))=>eX r fun r=>k ((i,.c (.v (.v t y)))::r)
  | (i,.c (.v y))=>eX r fun r=>k ((i,.c (.v y))::r)
  | (i,.c (.g y))=>eX r fun r=>k ((i,.c (.g y))::r)
  | (i,.t y)=>eX r fun r=>k ((i,.t y)::r)
def II (cur:TSt) (t:Ty) (l:TL) (k:t.den->List Nat->Option ρ):Option ρ :=
 match l with
 | .v t' x=>tK t' t x fun x=>k x []
 | .nil=>Im t fun x=>k x []
 | .own o=>match obT fx cur o with
  | some (.arr _ t' l)=>tK (.sl t') t l fun x=>k x [o]
  | _=>none
 | _=>none
def A5 (cur:TSt):(t:Ty)->List TL->(t.den->List Nat->List TL->Option ρ)->Option ρ
 | .pair a b,ls,k=>A5 cur a ls fun x os ls=>A5 cur b ls fun y ps ls=>k (x,y) (os++ps) ls
 | t,l::ls,k=>II fx cur t l fun x os=>k x os ls
 | _,[],_=>none
def vZ (cur:TSt) (te:Ty):List Operand->(List (Nat×TSl)->List Nat->Option ρ)->Option ρ
 | [],k=>k [] []
 | .tmp t::r,k=>match qx cur.tm fx.tm t with
  | some (.c c)=>A5 fx cur te c.leaves fun x os rest=>match rest with
   | []=>vZ cur te r fun ns ps=>k ((t,.c (match c with | .g _=>.g (dR te x) | .v _=>.v (match dR te x with | y::_=>y | []=>.dead)))::ns) (os++ps)
   | _=>none
  | _=>none
 | _::r,k=>vZ cur te r k
def sT (os:List Nat) (x:TSl):TSl:=cond (x.ik.any (cr os)) .dead x
def xX (cur:TSt) (ns:List (Nat×TSl)) (os:List Nat):List (Nat×TSl):=ns++cur.tm.map fun x=>(x.1,sT os x.2)
def wa (cur:TSt) (os:List Nat):List (Nat×cV):=cur.hp.filter fun x=>!cr os x.1
def MW:TL->Option Nat
 | .own o=>some o
 | _=>none
def ownArgs (cur:TSt):List Operand->List Nat
 | []=>[]
 | .tmp t::r=>match qx cur.tm fx.tm t with
  | some (.c (.v (.own o)))=>o::ownArgs cur r
  | some (.c (.v (.loc o _)))=>(match obT fx cur o with | some (.box _ cs)=>cs.filterMap MW++ownArgs cur r | _=>ownArgs cur r)
  | _=>ownArgs cur r
 | _::r=>ownArgs cur r
def ov (cur:TSt) (os:List Nat):TL->TL
 | .own o=>cond (cr os o) (match obT fx cur o with | some (.arr _ t l)=>.v (.sl t) l | _=>.own o) (.own o)
 | x=>x
def wb (cur:TSt) (os:List Nat):TC->TC
 | .v x=>.v (ov fx cur os x)
 | .g xs=>.g (xs.map (ov fx cur os))
def Dl (cur:TSt) (os:List Nat):TSl->TSl
 | .c c=>.c (wb fx cur os c)
 | .t l=>.t (l.map (wb fx cur os))
 | .dead=>.dead
def wc (cur:TSt) (os:List Nat):cV->cV
 | .box t cs=>.box t (cs.map (ov fx cur os))
 | .lit t cs=>.lit t (cs.map (ov fx cur os))
 | h=>h
def zTm (cur:TSt) (os:List Nat):List (Nat×TSl):=cur.tm.map fun x=>(x.1,sT os (Dl fx cur os x.2))
def zHp (cur:TSt) (os:List Nat):List (Nat×cV):=(cur.hp.filter fun x=>!cr os x.1).map fun x=>(x.1,wc fx cur os x.2)
def tN (cur:TSt):List Operand->List Nat
 | []=>[]
 | .tmp t::r=>match qx cur.tm fx.tm t with
  | some (.c c)=>c.leaves.filterMap MW++tN cur r
  | _=>tN cur r
 | _::r=>tN cur r
def NP:TL->Bool
 | .nil=>true
 | _=>false
def Ew (cur:TSt) (l:List Operand):Bool:=l.all fun x=>match evT fx cur cJ x with | .c c=>c.leaves.all fun y=>!NP y | _=>true
def NQ (op:Op) (cur:TSt) (k:TSt->Option ρ):Option ρ :=
 match op with
 | .buildSlice t _ ps=>cond (Ew fx cur (ps.toList.map (·.2)))
  (cond ((tN fx cur (ps.toList.map (·.2))).all (fun o=>match look fx.hp o with | some _=>false | none=>true) && jd ⟨fS [] (zTm fx cur (tN fx cur (ps.toList.map (·.2)))++fx.tm),fS [] (zHp fx cur (tN fx cur (ps.toList.map (·.2)))++fx.hp)⟩) (k ⟨zTm fx cur (tN fx cur (ps.toList.map (·.2))),zHp fx cur (tN fx cur (ps.toList.map (·.2)))⟩) none)
  (match look E.H t with
  | some te=>vZ fx cur te (ps.toList.map (·.2)) fun ns os =>
   cond (os.all (fun o=>match look fx.hp o with | some _=>false | none=>true) && jd ⟨fS [] (xX cur ns os++fx.tm),fS [] (wa cur os++fx.hp)⟩) (k ⟨xX cur ns os,wa cur os⟩) none
  | none=>none)
 | .call c =>
  cond ((ownArgs fx cur c.args.toList).all (fun o=>match look fx.hp o with | some _=>false | none=>true) && jd ⟨fS [] (zTm fx cur (ownArgs fx cur c.args.toList)++fx.tm),fS [] (zHp fx cur (ownArgs fx cur c.args.toList)++fx.hp)⟩) (k ⟨zTm fx cur (ownArgs fx cur c.args.toList),zHp fx cur (ownArgs fx cur c.args.toList)⟩) none
 | _=>none
def NR (o:Oper) (cur:TSt) (k:TSt->Option ρ):Option ρ :=
 match o.dst with
 | some d=>cond (cr E.fz d) (NQ E fx o.op cur k) (k cur)
 | none=>k cur
def Dm (ops:List Oper) (cur:TSt) (g:Nat):Option (Nat×TSl) :=
 match ops[g]? with
 | some o=>match o.dst with | some d=>some (d,(qx cur.tm fx.tm d).getD .dead) | none=>none
 | none=>none
def xj (ops:List Oper):List Oper->TSt->(TSt->Option ρ)->Option ρ
 | [],cur,K=>K cur
 | o::rest,cur,K=>match o.guard with
  | none=>NR E fx o cur fun cur=>opT E fx o.op o.dst cur fun x wr=>eX (qq cur o.dst x wr).tm fun tm=>xj ops rest ⟨tm,(qq cur o.dst x wr).hp⟩ K
  | some (g,b)=>match Dm fx ops cur g with
   | some (d,.c (.v (.v .bool c)))=>cond c
    (cond b (opT E fx o.op o.dst ⟨qp cur.tm d (tV .bool true),cur.hp⟩ fun x wr=>eX (qq ⟨qp cur.tm d (tV .bool true),cur.hp⟩ o.dst x wr).tm fun tm=>xj ops rest ⟨tm,(qq cur o.dst x wr).hp⟩ K) (xj ops rest (qq ⟨qp cur.tm d (tV .bool true),cur.hp⟩ o.dst (.t []) []) K))
    (cond b (xj ops rest (qq ⟨qp cur.tm d (tV .bool false),cur.hp⟩ o.dst (.t []) []) K) (opT E fx o.op o.dst ⟨qp cur.tm d (tV .bool false),cur.hp⟩ fun x wr=>eX (qq ⟨qp cur.tm d (tV .bool false),cur.hp⟩ o.dst x wr).tm fun tm=>xj ops rest ⟨tm,(qq cur o.dst x wr).hp⟩ K))
   | some (d,.t _)=>xj ops rest (qq cur o.dst (.t []) []) K
   | _=>none
end
inductive An where
 | no
 | seq (a b:An)
 | join (σ:Shp) (kt kh:List Nat) (pure:Bool) (a b:An)
 | cond (a b:An)
 | loop (σ:Shp) (kt kh:List Nat) (b:An)
 | one (a:An)
 | range (σ:Shp) (kt kh:List Nat) (a b:An)
 | hand (i:Nat)
def NS {α:Type}:List α->Nat->Option α
 | [],_=>none
 | x::_,0=>some x
 | _::r,i+1=>NS r i
noncomputable def den [Fuel] (E : Env) : Code->An->TSt->(ρ : Type)->DecidableEq ρ->TSt->(AEx->TSt->Option ρ)->Option ρ
  | .skip, _, fx, ρ, dq, cur, K => K .normal cur
  | .region _ ops _, _, fx, ρ, dq, cur, K => xj E fx ops.toList ops.toList cur fun c => K .normal c
  | .seq a b, an, fx, ρ, dq, cur, K => match an with
    | .seq x y => den E a x fx ρ dq cur fun e c => match e with | .normal => den E b y fx ρ dq c K | e => K e c
    | .join σ kt kh true x y => Bool.rec none
        ((den E a x (jm fx cur (cu cur σ kt kh) σ) (Tup σ.ps) (vU σ.ps) (vW fx cur σ kt kh) fun e c => match e with
          | .normal => Bool.rec none (fitAll (jm fx cur (cu cur σ kt kh) σ) c σ (jm fx cur (cu cur σ kt kh) σ) some) (qR (jm fx cur (cu cur σ kt kh) σ) c σ)
          | _ => none).bind fun v => den E b y fx ρ dq ⟨(σ.at v).tm++(cu cur σ kt kh).tm, (σ.at v).hp++(cu cur σ kt kh).hp⟩ K)
        (jd (jm fx cur (cu cur σ kt kh) σ) && qS fx cur (cu cur σ kt kh) σ)
    | .join σ kt kh false x y => Bool.rec none
        ((den E a x (jm fx cur (cu cur σ kt kh) σ) (Tup σ.ps⊕ρ) (@instDecidableEqSum _ _ (vU σ.ps) dq) (vW fx cur σ kt kh) fun e c => match e with
          | .normal => Bool.rec none (fitAll (jm fx cur (cu cur σ kt kh) σ) c σ (jm fx cur (cu cur σ kt kh) σ) fun v => some (.inl v)) (qR (jm fx cur (cu cur σ kt kh) σ) c σ)
          | e => (K e ⟨c.tm++(cu cur σ kt kh).tm, c.hp++(cu cur σ kt kh).hp⟩).map .inr).bind fun o => match o with
            | .inl v => den E b y fx ρ dq ⟨(σ.at v).tm++(cu cur σ kt kh).tm, (σ.at v).hp++(cu cur σ kt kh).hp⟩ K
            | .inr r => some r)
        (jd (jm fx cur (cu cur σ kt kh) σ) && qS fx cur (cu cur σ kt kh) σ)
    | .hand i => match NS E.IK i with
      | some h => (h fx cur).bind fun c => K .normal c
      | none => none
    | _ => none
  | .cond c a b, an, fx, ρ, dq, cur, K => match an with
    | .cond x y => match evT fx cur cJ c with
      | .c (.v (.v .bool t)) => Bool.rec (den E b y fx ρ dq cur K) (den E a x fx ρ dq cur K) t
      | .c (.v (.nb pos t l)) => Bool.rec (po l (den E b y fx ρ dq cur K) (den E a x fx ρ dq cur K)) (po l (den E a x fx ρ dq cur K) (den E b y fx ρ dq cur K)) pos
      | _ => none
    | _ => none
  | .block id b, an, fx, ρ, dq, cur, K => match an with
    | .one x => den E b x fx ρ dq cur fun e c => match e with | .exit i => Bool.rec (K (.exit i) c) (K .normal c) (Nat.beq i id) | e => K e c
    | _ => none
  | .loop b, an, fx, ρ, dq, cur, K => match an with
    | .loop σ kt kh x => Bool.rec none
        (fitAll fx cur σ (jm fx cur (cu cur σ kt kh) σ) fun v0 => bS (fun v => den E b x (jm fx cur (cu cur σ kt kh) σ) (Tup σ.ps⊕ρ) (@instDecidableEqSum _ _ (vU σ.ps) dq) (σ.at v) fun e c => match e with
          | .normal => Bool.rec none (fitAll (jm fx cur (cu cur σ kt kh) σ) c σ (jm fx cur (cu cur σ kt kh) σ) fun v => some (.inl v)) (qR (jm fx cur (cu cur σ kt kh) σ) c σ)
          | e => (K e ⟨c.tm++(cu cur σ kt kh).tm, c.hp++(cu cur σ kt kh).hp⟩).map .inr) v0)
        (jd (jm fx cur (cu cur σ kt kh) σ) && qS fx cur (cu cur σ kt kh) σ)
    | _ => none
  | .exit id, _, fx, ρ, dq, cur, K => K (.exit id) cur
  | .ret, _, fx, ρ, dq, cur, K => K .ret cur
  | .scope b, an, fx, ρ, dq, cur, K => match an with
    | .one x => den E b x fx ρ dq cur K
    | _ => none
  | _, _, _, _, _, _, _ => none
def K4 (P:Program) (cur:TSt):ResultVar->Option TC
 | .tmp t=>match look cur.tm t with | some (.c c)=>some c | _=>none
 | .cell t ty=>match look cur.tm t with
  | some (.c (.v (.loc o off)))=>match look cur.hp o,gK P ty with
   | some (.box _ cs),some n=>C8 cs off n (fW P ty)
   | _,_=>none
  | _=>none
def A6 (P:Program) (cur:TSt):List ResultVar->Option (List TC)
 | []=>some []
 | r::rs=>match K4 P cur r,A6 P cur rs with | some c,some l=>some (c::l) | _,_=>none
def sU:Nat->List TC->List (Nat×TSl)
 | _,[]=>[]
 | i,c::r=>(i,.c c)::sU (i+1) r
def IJ:Nat->List SSh->List (Nat×SSh)
 | _,[]=>[]
 | i,c::r=>(i,c)::IJ (i+1) r
noncomputable def NT (P:Program) (rs:List ResultVar) (kin:List (Nat×cV)) (out:RSh) (iR:List (Nat×OSh)) (qs:List Ty) (cur:TSt):Option (Tup qs) :=
 match A6 P ⟨cur.tm,cur.hp++kin⟩ rs with
 | some cs=>Bool.rec none (fitAll ⟨[],kin⟩ ⟨sU 0 cs,cur.hp⟩ ⟨IJ 0 (out.eH.map .c),iR,qs⟩ ⟨[],kin⟩ some) (qR ⟨[],kin⟩ ⟨[],cur.hp⟩ ⟨[],[],[]⟩ && qQ (bh kin) && Nat.beq cs.length out.eH.length && (match out with | .one _=>true | .tup l=>!Nat.beq l.length 1))
 | none=>none
def ug:List SSh->List Dyn->List TSl×List Dyn
 | [],ds=>([],ds)
 | x::r,ds=>match xi x ds with | (y,ds)=>match ug r ds with | (l,ds)=>(y::l,ds)
def Ga:Nat->List TSl->List (Nat×TSl)
 | _,[]=>[]
 | i,c::r=>(i,c)::Ga (i+1) r
noncomputable def fnT [Fuel] (E:Env) (fn:Func) (an:An) (ain:List SSh) (kin hin:List (Nat×OSh)) (ps:List Ty) (out:RSh) (iR:List (Nat×OSh)) (qs:List Ty) (x:Tup ps):Option (Tup qs) :=
 match fn.body with
 | some c=>match ug ain (kR ps x) with
  | (as,ds)=>match mU kin ds with
   | (ks,ds)=>match mU hin ds with
    | (hs,_)=>Bool.rec none (den E c an ⟨[],ks⟩ (Tup qs) (vU qs) ⟨Ga 0 as,hs⟩ fun e c=>match e with
     | .exit _=>none
     | _=>NT E.P fn.results.toList ks out iR qs c) (jd ⟨[],ks⟩)
 | none=>none
end Go.Lad
