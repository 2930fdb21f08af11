import Derived.Test.YtcppfkflcigjcaaGreatDoorEL
import Derived.Test.YtcppfkflcigjcaaGreatDoorProg
import Derived.KernelRfl
namespace Go.Proofs.YtcppfkflcigjcaaGreatDoor
open Go.Lad
set_option linter.unusedVariables false
set_option linter.unusedSectionVars false
abbrev Av:Type:=Int×List ba
abbrev iM:Type:=Bs×Av
abbrev gK:Type:=Bs×(List Int)×Av×Av
abbrev bZ:Type:=(List gK)×(List gK)×List Int
abbrev gO:Type:=(List Int)×Int
abbrev eS:Type:=Int×Int×Int
abbrev tE:Type:=eS×eS
abbrev uG:Type:=Bs×List Bs
abbrev pA:Type:=Bs×(List tE)×Int×uG
abbrev gd:Type:=Bs×eS×Bs×(List pA)×(List uG)×(List Bs)×Bs
abbrev BQ:Type:=Int×Int×Bs×Bs×(List Bs)×List nT
abbrev NT:Type:=Int×Bs×(List tE)×Bs×BQ
abbrev lu:Type:=Int×Bs×eS×gd×NT×(List Int)×Int×eS
abbrev og:Type:=(List pA)×Bs×Int×(List Bs)×Bool
abbrev r9:Type:=Bs×eS×List Bs
abbrev jL:Type:=og×Int×List r9
abbrev Ru:Type:=Int×Int
abbrev tF:Type:=Int×Bs×List oY
abbrev mu:Type:=Bs×eS×Bs
abbrev wO:Type:=(List Int)×eS
abbrev yI:Type:=Int×Bs×Int×Int
abbrev Rg:Type:=(List yI)×Int
abbrev FA:Type:=(List ba)×(List nT)×List nT
abbrev uH:Type:=Bs×Bool×(List ba)×Av×Int×BQ
abbrev GZ:Type:=Bs×(List Bs)×(List ba)×(List nT)×(List uH)×Bool×FA
abbrev FB:Type:=Bs×(List Av)×Av×Int
abbrev Lb:Type:=Bs×List FB
abbrev yJ:Type:=(List Int)×(List (List Int))×List (List Bool)
abbrev ed:Type:=Int×Int×(List Bs)×List lE
abbrev Rh:Type:=Bs×Bool
def IF (f:lu):lu:=(f.1,f.2.1,f.2.2.1,f.2.2.2.1,(f.2.2.2.2.1.1,f.2.2.2.2.1.2.1,f.2.2.2.2.1.2.2.1,f.2.2.2.2.1.2.2.2.1,f.2.2.2.2.1.2.2.2.2.1,f.2.2.2.2.1.2.2.2.2.2.1,f.2.2.2.2.1.2.2.2.2.2.2.1,f.2.2.2.2.1.2.2.2.2.2.2.2.1,f.2.2.2.2.1.2.2.2.2.2.2.2.2.1,((f.2.2.2.2.1.2.2.2.2.2.2.2.2.2.map (Uun 1)).map (Umk 1))),f.2.2.2.2.2)
def ln {α:Type} (l:List α):Int:=(l.length:Int)
def ix {α β:Type} (l:List α) (i:Int) (f:α->Option β):Option β:=(idx l i).bind f
def fE {α β:Type} (l:List α) (i:Int) (f:α->Option β) (b:Option β):Option β:=bif (ltZ i (l.length:Int)) then (idx l i).bind f else b
def pu {β:Type} (i:Int) (f:Int->Option β):Option β:=(z64 (i+1)).bind f
def pd {β:Type} (i:Int) (f:Int->Option β):Option β:=(z64 (i-1)).bind f
def nx {β:Type} (i:Int):Option (Int⊕β):=(z64 (i+1)).bind fun j=>some (.inl j)
abbrev eB:Bs:=[]
def u2 {A0 A1 ω:Type} (f:A0->A1->ω) (x:A0×A1):ω:=f x.1 x.2
def u3 {A0 A1 A2 ω:Type} (f:A0->A1->A2->ω) (x:A0×A1×A2):ω:=f x.1 x.2.1 x.2.2
def u4 {A0 A1 A2 A3 ω:Type} (f:A0->A1->A2->A3->ω) (x:A0×A1×A2×A3):ω:=f x.1 x.2.1 x.2.2.1 x.2.2.2
def u5 {A0 A1 A2 A3 A4 ω:Type} (f:A0->A1->A2->A3->A4->ω) (x:A0×A1×A2×A3×A4):ω:=f x.1 x.2.1 x.2.2.1 x.2.2.2.1 x.2.2.2.2
def u6 {A0 A1 A2 A3 A4 A5 ω:Type} (f:A0->A1->A2->A3->A4->A5->ω) (x:A0×A1×A2×A3×A4×A5):ω:=f x.1 x.2.1 x.2.2.1 x.2.2.2.1 x.2.2.2.2.1 x.2.2.2.2.2
def u7 {A0 A1 A2 A3 A4 A5 A6 ω:Type} (f:A0->A1->A2->A3->A4->A5->A6->ω) (x:A0×A1×A2×A3×A4×A5×A6):ω:=f x.1 x.2.1 x.2.2.1 x.2.2.2.1 x.2.2.2.2.1 x.2.2.2.2.2.1 x.2.2.2.2.2.2
def u8 {A0 A1 A2 A3 A4 A5 A6 A7 ω:Type} (f:A0->A1->A2->A3->A4->A5->A6->A7->ω) (x:A0×A1×A2×A3×A4×A5×A6×A7):ω:=f x.1 x.2.1 x.2.2.1 x.2.2.2.1 x.2.2.2.2.1 x.2.2.2.2.2.1 x.2.2.2.2.2.2.1 x.2.2.2.2.2.2.2
def u9 {A0 A1 A2 A3 A4 A5 A6 A7 A8 ω:Type} (f:A0->A1->A2->A3->A4->A5->A6->A7->A8->ω) (x:A0×A1×A2×A3×A4×A5×A6×A7×A8):ω:=f x.1 x.2.1 x.2.2.1 x.2.2.2.1 x.2.2.2.2.1 x.2.2.2.2.2.1 x.2.2.2.2.2.2.1 x.2.2.2.2.2.2.2.1 x.2.2.2.2.2.2.2.2
def u10 {A0 A1 A2 A3 A4 A5 A6 A7 A8 A9 ω:Type} (f:A0->A1->A2->A3->A4->A5->A6->A7->A8->A9->ω) (x:A0×A1×A2×A3×A4×A5×A6×A7×A8×A9):ω:=f x.1 x.2.1 x.2.2.1 x.2.2.2.1 x.2.2.2.2.1 x.2.2.2.2.2.1 x.2.2.2.2.2.2.1 x.2.2.2.2.2.2.2.1 x.2.2.2.2.2.2.2.2.1 x.2.2.2.2.2.2.2.2.2
def u30 {A0 A1 A2 A3 A4 A5 A6 A7 A8 A9 A10 A11 A12 A13 A14 A15 A16 A17 A18 A19 A20 A21 A22 A23 A24 A25 A26 A27 A28 A29 ω:Type} (f:A0->A1->A2->A3->A4->A5->A6->A7->A8->A9->A10->A11->A12->A13->A14->A15->A16->A17->A18->A19->A20->A21->A22->A23->A24->A25->A26->A27->A28->A29->ω) (x:A0×A1×A2×A3×A4×A5×A6×A7×A8×A9×A10×A11×A12×A13×A14×A15×A16×A17×A18×A19×A20×A21×A22×A23×A24×A25×A26×A27×A28×A29):ω:=f x.1 x.2.1 x.2.2.1 x.2.2.2.1 x.2.2.2.2.1 x.2.2.2.2.2.1 x.2.2.2.2.2.2.1 x.2.2.2.2.2.2.2.1 x.2.2.2.2.2.2.2.2.1 x.2.2.2.2.2.2.2.2.2.1 x.2.2.2.2.2.2.2.2.2.2.1 x.2.2.2.2.2.2.2.2.2.2.2.1 x.2.2.2.2.2.2.2.2.2.2.2.2.1 x.2.2.2.2.2.2.2.2.2.2.2.2.2.1 x.2.2.2.2.2.2.2.2.2.2.2.2.2.2.1 x.2.2.2.2.2.2.2.2.2.2.2.2.2.2.2.1 x.2.2.2.2.2.2.2.2.2.2.2.2.2.2.2.2.1 x.2.2.2.2.2.2.2.2.2.2.2.2.2.2.2.2.2.1 x.2.2.2.2.2.2.2.2.2.2.2.2.2.2.2.2.2.2.1 x.2.2.2.2.2.2.2.2.2.2.2.2.2.2.2.2.2.2.2.1 x.2.2.2.2.2.2.2.2.2.2.2.2.2.2.2.2.2.2.2.2.1 x.2.2.2.2.2.2.2.2.2.2.2.2.2.2.2.2.2.2.2.2.2.1 x.2.2.2.2.2.2.2.2.2.2.2.2.2.2.2.2.2.2.2.2.2.2.1 x.2.2.2.2.2.2.2.2.2.2.2.2.2.2.2.2.2.2.2.2.2.2.2.1 x.2.2.2.2.2.2.2.2.2.2.2.2.2.2.2.2.2.2.2.2.2.2.2.2.1 x.2.2.2.2.2.2.2.2.2.2.2.2.2.2.2.2.2.2.2.2.2.2.2.2.2.1 x.2.2.2.2.2.2.2.2.2.2.2.2.2.2.2.2.2.2.2.2.2.2.2.2.2.2.1 x.2.2.2.2.2.2.2.2.2.2.2.2.2.2.2.2.2.2.2.2.2.2.2.2.2.2.2.1 x.2.2.2.2.2.2.2.2.2.2.2.2.2.2.2.2.2.2.2.2.2.2.2.2.2.2.2.2.1 x.2.2.2.2.2.2.2.2.2.2.2.2.2.2.2.2.2.2.2.2.2.2.2.2.2.2.2.2.2
abbrev LM:Type:=List ((Bs×Int×Int×Int×Bs)×Int)
abbrev L3:Type:=List (List (List Int))
abbrev L2:Type:=List (List Int)
abbrev LW:Type:=List (Bs×Bool)
abbrev LC:Type:=List wO
abbrev LP:Type:=List mu
abbrev LF:Type:=List lu
abbrev Lf:Type:=List iM
abbrev LR:Type:=List tE
abbrev LT:Type:=List r9
abbrev LE:Type:=List BQ
abbrev LN:Type:=List pA
abbrev LV:Type:=List gK
abbrev LY:Type:=List gO
abbrev LL:Type:=List tF
abbrev LK:Type:=List yI
abbrev LU:Type:=List uG
abbrev LZ:Type:=List Bool
abbrev LI:Type:=List Int
abbrev LB:Type:=List Bs
abbrev O1:Type:=Option Bool
abbrev O2:Type:=Option (Int⊕Int)
abbrev O3:Type:=Option Int
abbrev O4:Type:=Option (Int⊕Bool)
abbrev O5:Type:=Option ((Int×LI)⊕LI)
abbrev O6:Type:=Option ((Bool×LB×Int×Bs×LL)⊕((Int×Bs×Int×Bs×LB×LL)⊕(tF×Bool×LB)))
abbrev O7:Type:=Option ((Bool×Int×Bs×Int×Int×Int×Bs×Int×Int×Int×Bs×LN×LU×LB×Bs×Int×Bs×LR×Bs×Int×Int×Bs×Bs×LB×LE×LI×Int×Int×Int×Int)⊕Bool)
abbrev O8:Type:=Option LI
abbrev O9:Type:=Option ((Int×LF×LP×LM×LC)⊕((Int×LF×LP×LM×LC)⊕(LF×LP×LM×LC)))
abbrev O10:Type:=Option ((Bs×Bs×Bool×List (Bs×Bs))⊕((Bs×Bool×List (Bs×Bs))⊕(Bool×Bs×Bool×List (Bs×Bs))))
abbrev O11:Type:=Option ((Int×LF×LP×LM×LC)⊕(LF×LP×LM×LC))
abbrev O12:Type:=Option (tF×Bool×LB)
abbrev O13:Type:=Option ((Int×Int)⊕Int)
abbrev O14:Type:=Option ((Bs×Bs×Bool×List (Bs×Bs))⊕((Bs×Bool×List (Bs×Bs))⊕(Bs×Bool)))
abbrev O15:Type:=Option ((Int×LF×LP×LM×LC)⊕(LF×LC×LP×LM))
abbrev O16:Type:=Option ((LC×L2×LI)⊕(L2×Int×LZ))
abbrev O17:Type:=Option (LF×LC×LP×LM)
abbrev O18:Type:=Option ((Int×LI)⊕((Int×LI)⊕LI))
abbrev O19:Type:=Option ((Int×List (Int×Bool))⊕((Int×List (Int×Bool))⊕Bool))
abbrev O20:Type:=Option ((Int×Int×Int×Bool×Bool)⊕Unit)
abbrev O21:Type:=Option (Int⊕(Unit⊕Bool))
abbrev O22:Type:=Option ((Int×LW)⊕(Unit⊕Bool))
abbrev O23:Type:=Option ((Int×LI×L2×List (Int×LI))⊕(L2×List (Int×LI)))
abbrev O24:Type:=Option ((Int×LB)⊕(LB⊕Bool))
abbrev O25:Type:=Option (Bs×Bool)
abbrev O26:Type:=Option ((Int×Int×Int×LB×List ed)⊕(ed×Bool))
abbrev O27:Type:=Option ((Int×Bs×Int×Int×Int×LB)⊕((Int×LT)⊕LT))
abbrev O28:Type:=Option ((LC×L2×LI)⊕((LC×L2×LI)⊕(L2×Int×LZ)))
abbrev O29:Type:=Option ((Int×LZ)⊕(LZ⊕((Int×LZ×LI)⊕(LI×Int))))
abbrev O30:Type:=Option ((Int×LZ)⊕(LZ⊕((Int×LZ×LI)⊕(Int×LI))))
abbrev O31:Type:=Option (Int⊕Unit)
abbrev O32:Type:=Option ((Int×LZ)⊕((LC×L2×LI)⊕(L2×Int×LZ)))
abbrev O33:Type:=Option ((Int×LZ×LI)⊕(LI×Int))
abbrev O34:Type:=Option ((Int×LZ×LI)⊕(Int×LI))
abbrev O35:Type:=Option Unit
abbrev O36:Type:=Option (Int⊕(Int⊕Bool))
abbrev O37:Type:=Option (Int⊕(Int⊕Unit))
abbrev O38:Type:=Option (GZ×Int×LK)
abbrev O39:Type:=Option ((Int×LP)⊕((Int×LP×LP)⊕(LP×LP)))
abbrev O40:Type:=Option (LC×Int)
abbrev O41:Type:=Option ((Int×LI)⊕(LI⊕(LF×LC×LP×LM)))
abbrev O42:Type:=Option ((Int×LZ)⊕LZ)
abbrev O43:Type:=Option (Int×Bs×Bool)
abbrev O44:Type:=Option ((Int×LI)⊕((LZ×LI)⊕(Bool×LZ)))
abbrev O45:Type:=Option (yJ×Int)
abbrev O46:Type:=Option (L2×Int×LZ)
abbrev O47:Type:=Option (ed×Bool)
abbrev O48:Type:=Option (Int×LI)
abbrev O49:Type:=Option (Bool×Bs×Bool×List (Bs×Bs))
abbrev O50:Type:=Option ((LC×L2×LI)⊕(LZ×L2×Int))
abbrev O51:Type:=Option ((Int×List (Int×Bool))⊕Bool)
abbrev O52:Type:=Option (Int⊕(Int⊕(Int×Int×Bool)))
abbrev O53:Type:=Option Bs
abbrev O54:Type:=Option (Unit⊕Unit)
abbrev O55:Type:=Option ((Int×LP)⊕((Int×LP)⊕LP))
abbrev O56:Type:=Option (Int×Bool)
abbrev O57:Type:=Option (jL×L3×Int)
abbrev O58:Type:=Option ((Int×LP×LP)⊕(LP×LP))
abbrev O59:Type:=Option (Int⊕(Int×Int×Bool))
abbrev O60:Type:=Option LP
abbrev O61:Type:=Option (tF×Int)
abbrev Gr1:Type:=LB->Option (tF×Bool×LB)
abbrev Gr2:Type:=Int->Int->Bs->Bs->LB->LE->Int->Int->Bs->Bs->LB->LE->Option Bool
abbrev Gr3:Type:=Int->Lf->Bs->Option (ed×Bool)
abbrev Gr4:Type:=Int->Lf->Int->Int->LB->List ed->Option Bs
abbrev Gr5:Type:=Int->Lf->Int->Int->Option Int
abbrev Gr6:Type:=Int->Bs->LL->Int->Option Int
abbrev Gr7:Type:=Int->Lf->Int->Option Bool
noncomputable section
variable [Fuel]
def fi (a:Bs) (b:Int) (c:LN):Option lu:=some (0,eB,(0,0,0),(a,(b,0,0),([109,111,100,117,108,101,32,109,32,59]:Bs),c,[],[],([109,105,116]:Bs)),(0,eB,[],eB,0,0,eB,eB,[],[]),[],0,0,0,0)
def hU (a:Bs) (b:Int) (c:Int):Option LN:=some ([(a,([((b,0,0),c,0,0)]:LR),0,eB,[])]:LN)
def strings_Split (a:Bs) (b:Bs):Option LB:=BL a b
def dv.j1 (a:Int) (b:Bool):O36:=bif b then some (.inr (.inr false)) else (nx a)
def dv.b1 (d:Int) (c:Bs) (b:Int):O36:=bif (ltZ b ((eQ c).length:Int)) then ((idx (eQ c) b).bind fun a=>(bif (ltZ a 97) then (bif (ltZ a 48) then some true else some (ltZ 57 a)) else (bif (ltZ 122 a) then (bif (ltZ a 48) then some true else some (ltZ 57 a)) else some false)).bind fun e=>dv.j1 b e) else (Option.map Sum.inr (nx d))
def dv.j2 (a:Int) (b:Bs) (c:Bool):O4:=bif c then some (.inr false) else (aw (dv.b1 a b) 0)
def dv.b2 (c:LB) (b:Int):O4:=fE c b (fun a=>(bif (decide (a=eB)) then some true else (bif (eqZ b 0) then ((bAt a 0).bind fun d=>bif (ltZ d 97) then some true else ((bAt a 0).bind fun e=>some (ltZ 122 e))) else some false)).bind fun f=>dv.j2 b a f) <| some (.inr true)
def dv (a:Bs):O1:=bif (ltZ 20 (ln a)) then some false else ((strings_Split a ([45]:Bs)).bind fun b=>aw (dv.b2 b) 0)
def e7 (a:eS):O1:=bif (leZ 0 (min (min a.1 a.2.1) a.2.2)) then some (leZ (max (max a.1 a.2.1) a.2.2) 1048576) else some false
def eT (a:LR):Option LR:=pw a ( some []) ( (app? ([]:LR) a).bind fun b=>some b)
def cmp_isNaN_int (a:Int):O1:=some (!eqZ a a)
def cmp_Compare_int (a:Int) (b:Int):O3:=(cmp_isNaN_int a).bind fun d=>(cmp_isNaN_int b).bind fun c=>bif d then (bif c then some 0 else some (-1)) else (bif c then some 1 else (bif (ltZ a b) then some (-1) else (bif (ltZ b a) then some 1 else some 0)))
def kT.b1 (c:LI) (a:Int):O2:=fE c a (fun b=>bif (!eqZ b 0) then some (.inr b) else (nx a)) <| some (.inr 0)
def kT (a:LI):O3:=aw (kT.b1 a) 0
def dZ (a:eS) (b:eS):O3:=(cmp_Compare_int a.1 b.1).bind fun c=>(cmp_Compare_int a.2.1 b.2.1).bind fun d=>(cmp_Compare_int a.2.2 b.2.2).bind fun e=>(kT ([c,d,e]:LI)).bind fun f=>some f
def jM (a:tE):O1:=(dZ a.1 a.2).bind fun b=>some (leZ 0 b)
def cr.b1 (b:LR) (a:Int):O2:=fE b a (fun e=>ix b a fun c=>(jM c).bind fun d=>bif d then some (.inr a) else (nx a)) <| some (.inr (-1))
def cr (a:LR):O3:=aw (cr.b1 a) 0
def cd.b1 (b:Int) (c:Int) (a:LR):Option ((Int×Int×LR)⊕LR):=fE a c (fun j=>ix a c fun d=>(jM d).bind fun e=>bif (!e) then (ix a b fun k=>ix a b fun l=>pu b fun f=>pu c fun g=>some (.inl (f,g,(a.set b.toNat d)))) else (pu c fun h=>some (.inl (b,h,a)))) <| (Option.map Sum.inr ((cut a b (ln a)).bind fun m=>(p6 (b.toNat<=(ln a).toNat/\(ln a).toNat<=a.length)).bind fun n=>(cut (M9 a b (ln a) ((0,0,0),0,0,0)) 0 b).bind fun i=>some i))
def cd (a:LR):Option LR:=(cr a).bind fun b=>bif (eqZ b (-1)) then some a else (pu b fun c=>aw (u3 cd.b1) (b,c,a))
def bits_Len (a:Int):O3:=yF a
def bz.b1 (d:Int) (a:LR) (e:Int) (b:Int):O37:=bif (ltZ d b) then (ix a b fun f=>ix a b fun g=>pd b fun c=>ix a c fun h=>ix a c fun i=>none) else (Option.map Sum.inr (nx e))
def bz.b2 (b:Int) (c:Int) (d:LR) (a:Int):O31:=bif (ltZ a c) then (aw (bz.b1 b d a) a) else some (.inr ())
def bz (a:Int) (b:Int) (c:LR):O35:=pu a fun d=>aw (bz.b2 a b c) d
def cY.b1 (c:LR) (a:Int) (b:Int) (d:Int) (e:Bool) (g:Bool):O20:=(z64 (b-a)).bind fun f=>bif (leZ f 12) then ((bz a b c).bind fun h=>some (.inr ())) else (bif (eqZ d 0) then none else (bif (!e) then none else none))
def cY (a:Int) (b:Int) (c:Int) (d:LR):O35:=aw (u5 (cY.b1 d)) (a,b,c,true,true)
def eo (a:LR):O35:=(bits_Len (IntKind.u64.wrap (ln a))).bind fun b=>(cY 0 (ln a) b a).bind fun c=>some ()
def iY.j1 (c:Int) (a:LR) (d:tE) (b:Int) (e:Bool):Option ((Int×LR)⊕LR):=bif e then (ix a b fun m=>ix a b fun f=>(dZ f.2 d.2).bind fun g=>bif (ltZ g 0) then (ix a b fun n=>ix a b fun h=>pu c fun i=>some (.inl (i,(a.set b.toNat (h.1,d.2))))) else (pu c fun j=>some (.inl (j,a)))) else ((app? a ([d]:LR)).bind fun k=>pu c fun l=>some (.inl (l,k)))
def iY.b1 (d:LR) (c:Int) (a:LR):Option ((Int×LR)⊕LR):=fE d c (fun i=>ix d c fun e=>(z64 ((ln a)-1)).bind fun b=>(bif (leZ 0 b) then (ix a b fun j=>ix a b fun f=>(dZ e.1 f.2).bind fun g=>some (leZ g 0)) else some false).bind fun h=>iY.j1 c a e b h) <| some (.inr a)
def iY (b:LR):Option LR:=(eT b).bind fun c=>(cd c).bind fun a=>(eo a).bind fun d=>aw (u2 (iY.b1 a)) (0,[])
def bn.b1 (d:LR) (e:LR) (c:Int):O4:=bif (ltZ c (d.length:Int)) then ((idx d c).bind fun a=>(idx e c).bind fun b=>bif (!((eqZ a.1.1 b.1.1 && (eqZ a.1.2.1 b.1.2.1 && (eqZ a.1.2.2 b.1.2.2 && (eqZ a.2.1 b.2.1 && (eqZ a.2.2.1 b.2.2.1 && eqZ a.2.2.2 b.2.2.2))))))) then some (.inr false) else (nx c)) else some (.inr true)
def bn (a:LR) (b:LR):O1:=bif (!eqZ (a.length:Int) (b.length:Int)) then some false else (aw (bn.b1 a b) 0)
def il.j1 (a:Int) (b:Bool):O21:=bif b then some (.inr (.inr false)) else (nx a)
def il.b1 (c:LR) (a:Int):O21:=fE c a (fun b=>((e7 b.1).bind fun d=>bif (!d) then some true else ((e7 b.2).bind fun e=>some (!e))).bind fun f=>il.j1 a f) <| some (.inr (.inl ()))
def il.j2 (a:LR):O1:=bif (leZ (ln a) 6) then ((iY a).bind fun b=>(bn b a).bind fun c=>some c) else some false
def il (a:LR):O1:=(aw (il.b1 a) 0).bind fun b=>match b with | .inl b =>   il.j2 a | .inr c=>some c
def bA.b1 (b:LB) (c:Bs) (a:Int):O2:=bif (ltZ a (b.length:Int)) then ((idx b a).bind fun d=>bif (decide (c=d)) then some (.inr a) else ((z64 (a+1)).bind fun e=>some (.inl e))) else some (.inr (-1))
def bA (a:LB) (b:Bs):O3:=aw (fun c=>bA.b1 a b c) 0
def aZ (a:LB) (b:Bs):O1:=(bA a b).bind fun c=>some (leZ 0 c)
def iQ.j1 (a:Int) (b:Bool):O4:=bif b then some (.inr false) else (nx a)
def iQ.b1 (b:LB) (a:Int):O4:=fE b a (fun c=>((dv c).bind fun d=>bif (!d) then some true else (bif (ltZ 0 a) then (pd a fun e=>ix b e fun f=>some (!Op.bytesLess f c)) else some false)).bind fun g=>iQ.j1 a g) <| some (.inr (leZ (ln b) 12))
def iQ (a:LB):O1:=aw (iQ.b1 a) 0
def eG.j1 (a:pA) (b:Bool):O1:=bif b then some false else ((iQ a.2.2.2.2).bind fun c=>bif c then (bif (eqZ a.2.2.1 0) then some true else some (eqZ (ln a.2.2.2.2) 0)) else some false)
def eG.j2 (a:pA) (b:LB) (c:Bool):O1:=bif c then some false else ((bif (!decide (a.2.2.2.1=eB)) then ((aZ b a.2.2.2.1).bind fun d=>some (!d)) else some false).bind fun e=>eG.j1 a e)
def eG (a:pA) (d:LB):O1:=((dv a.1).bind fun b=>bif (!b) then some (!b) else ((il a.2.1).bind fun c=>bif (!c) then some (!c) else (bif (ltZ a.2.2.1 0) then some (ltZ a.2.2.1 0) else some (leZ 3 a.2.2.1)))).bind fun e=>eG.j2 a d e
def lN (a:pA):O1:=(eG a []).bind fun b=>some (!b)
def cy.b1 (b:LN) (a:Int):O2:=fE b a (fun c=>(lN c).bind fun d=>bif d then some (.inr a) else (nx a)) <| some (.inr (-1))
def cy (a:LN):O3:=aw (cy.b1 a) 0
def dG (a:LN):O1:=(cy a).bind fun b=>some (leZ 0 b)
def nH (a:og):O1:=(dG a.1).bind fun b=>bif (!b) then (bif (leZ (ln a.1) 30) then some (eqZ (anI .i64 a.2.2.1 15) 0) else some false) else some false
def c9.b1 (a:LB) (b:Int):O2:=fE a b (fun c=>none) <| some (.inr (-1))
def c9 (a:LB) (b:LB):O3:=aw (c9.b1 a) 0
def eH (a:LB) (b:LB):O1:=(c9 a b).bind fun c=>some (leZ 0 c)
def mw (a:pA) (b:LB):O1:=(eG a b).bind fun c=>some (!c)
def cf.b1 (b:LN) (c:LB) (a:Int):O2:=fE b a (fun d=>(mw d c).bind fun e=>bif e then some (.inr a) else (nx a)) <| some (.inr (-1))
def cf (a:LN) (b:LB):O3:=aw (cf.b1 a b) 0
def di (a:LN) (b:LB):O1:=(cf a b).bind fun c=>some (leZ 0 c)
def jy (a:LB):Option (Int×Int×Int×LB):=(M7 .i64 (ln a) 2).bind fun b=>bif (eqZ b 1) then none else ((app? [] a).bind fun c=>some (0,0,0,c))
def jt (a:Bs) (b c e:Int) (d:LB):O53:=GU b c d a
def cV.j1 (a:LB) (b:Bool):Option (Bool×LB):=bif b then ((cut a 1 (ln a)).bind fun c=>some (true,c)) else some (false,a)
def cV (b:Bs) (a:LB):Option (Bool×LB):=(fE a 0 (fun c=>some (decide (c=b))) <| some false).bind fun d=>cV.j1 a d
def qV (a:Bs) (b:Bs):O53:=GR a b
def kU (a:Bs):O1:=BP a
def im.j1 (a:Bs) (b:Bool):O1:=bif b then some false else ((qV a ([97,98,99,100,101,102,103,104,105,106,107,108,109,110,111,112,113,114,115,116,117,118,119,120,121,122,48,49,50,51,52,53,54,55,56,57,45,46]:Bs)).bind fun c=>bif (decide (c=eB)) then ((kU a).bind fun d=>some (!d)) else some false)
def im (a:Bs):O1:=(bif (decide (a=eB)) then some true else (bif (ltZ 20 (ln a)) then some true else (bif (decide (a=([97,110,100]:Bs))) then some true else (bif (decide (a=([111,114]:Bs))) then some true else ((bAt a 0).bind fun b=>bif (ltZ b 97) then some true else ((bAt a 0).bind fun c=>some (ltZ 122 c))))))).bind fun d=>im.j1 a d
def gm.j1 (a:LB) (b:Bool):Option (Bs×Bool×LB):=bif b then some (eB,false,a) else (ix a 0 fun c=>(cut a 1 (ln a)).bind fun d=>some (c,true,d))
def gm (a:LB):Option (Bs×Bool×LB):=(bif (eqZ (ln a) 0) then some true else (ix a 0 fun b=>(im b).bind fun c=>some (!c))).bind fun d=>gm.j1 a d
def jz (Gr:Gr1) (e:LB):O12:=(cV ([40]:Bs) e).bind fun b=>bif b.1 then ((Gr b.2).bind fun a=>bif a.2.1 then ((cV ([41]:Bs) a.2.2).bind fun d=>some ((a.1.1,a.1.2.1,((a.1.2.2.map (Uun 2)).map (Umk 2))),d.1,d.2)) else some ((a.1.1,a.1.2.1,((a.1.2.2.map (Uun 2)).map (Umk 2))),false,a.2.2)) else ((gm b.2).bind fun c=>some ((0,c.1,[]),c.2.1,c.2.2))
def bY.j1 (Gr:Gr1) (f:Int) (b:Int) (c:Bs) (d:LL) (g:Bool) (e:LB):O6:=bif g then ((jz Gr e).bind fun a=>bif (!a.2.1) then some (.inr (.inr ((0,eB,[]),false,a.2.2))) else (bif (eqZ a.1.1 f) then ((app? d (a.1.2.2.map (Uun 2))).bind fun h=>some (.inl (false,a.2.2,b,c,h))) else ((app? d ([(a.1.1,a.1.2.1,((a.1.2.2.map (Uun 2)).map (Umk 2)))]:LL)).bind fun i=>some (.inl (false,a.2.2,b,c,i))))) else some (.inr (.inl (0,eB,b,c,e,d)))
def bY.b1 (Gr:Gr1) (d:Int) (e:Bs) (f:Bool) (a:LB) (g:Int) (h:Bs) (i:LL):O6:=(bif f then some (true,a) else ((cV e a).bind fun b=>some (b.1,b.2))).bind fun c=>bY.j1 Gr d g h i c.1 c.2
def bY.j2 (f:Int) (g:Bs) (d:Int) (e:Bs) (c:LB) (a:LL):O12:=bif (eqZ (ln a) 1) then (ix a 0 fun h=>ix a 0 fun b=>some ((b.1,b.2.1,((b.2.2.map (Uun 2)).map (Umk 2))),true,c)) else some ((d,e,(a.map (Umk 2))),true,c)
def bY (Gr:Gr1) (b:Int) (c:Bs) (d:LB):O12:=(aw (u5 (bY.b1 Gr b c)) (true,d,b,eB,[])).bind fun a=>match a with | .inl a =>   u6 bY.j2 a | .inr e=>some e
def gP (Gr:Gr1) (b:LB):O12:=(bY Gr 1 ([97,110,100]:Bs) b).bind fun a=>some ((a.1.1,a.1.2.1,((a.1.2.2.map (Uun 2)).map (Umk 2))),a.2.1,a.2.2)
def cF.j1 (Gr:Gr1) (f:Int) (b:Int) (c:Bs) (d:LL) (g:Bool) (e:LB):O6:=bif g then ((gP Gr e).bind fun a=>bif (!a.2.1) then some (.inr (.inr ((0,eB,[]),false,a.2.2))) else (bif (eqZ a.1.1 f) then ((app? d (a.1.2.2.map (Uun 2))).bind fun h=>some (.inl (false,a.2.2,b,c,h))) else ((app? d ([(a.1.1,a.1.2.1,((a.1.2.2.map (Uun 2)).map (Umk 2)))]:LL)).bind fun i=>some (.inl (false,a.2.2,b,c,i))))) else some (.inr (.inl (0,eB,b,c,e,d)))
def cF.b1 (Gr:Gr1) (d:Int) (e:Bs) (f:Bool) (a:LB) (g:Int) (h:Bs) (i:LL):O6:=(bif f then some (true,a) else ((cV e a).bind fun b=>some (b.1,b.2))).bind fun c=>cF.j1 Gr d g h i c.1 c.2
def cF.j2 (f:Int) (g:Bs) (d:Int) (e:Bs) (c:LB) (a:LL):O12:=bif (eqZ (ln a) 1) then (ix a 0 fun h=>ix a 0 fun b=>some ((b.1,b.2.1,((b.2.2.map (Uun 2)).map (Umk 2))),true,c)) else some ((d,e,(a.map (Umk 2))),true,c)
def cF (Gr:Gr1) (b:Int) (c:Bs) (d:LB):O12:=(aw (u5 (cF.b1 Gr b c)) (true,d,b,eB,[])).bind fun a=>match a with | .inl a =>   u6 cF.j2 a | .inr e=>some e
def ak.body (Gr:Gr1) (b:LB):O12:=(cF Gr 2 ([111,114]:Bs) b).bind fun a=>some ((a.1.1,a.1.2.1,((a.1.2.2.map (Uun 2)).map (Umk 2))),a.2.1,a.2.2)
def ak.rec:Nat->LB->Option (tF×Bool×LB)
 | 0=>fun _=>none
 | n+1=>ak.body (ak.rec n)
def ak (a:LB):O12:=ak.rec Fuel.n a
def a6.j1 (a:Bool):O3:=bif a then some 17 else some 1
def a6.b1 (Gr:Gr6) (e:Int) (f:LL) (g:Int) (c:Int) (d:Int):O13:=fE f d (fun a=>bif (eqZ a.1 e) then some (.inr 17) else (pu g fun h=>(Gr a.1 a.2.1 (a.2.2.map (Uun 2)) h).bind fun i=>(z64 (c+i)).bind fun b=>bif (ltZ 16 b) then some (.inr b) else (pu d fun j=>some (.inl (b,j))))) <| some (.inr c)
def a6.j2 (Gr:Gr6) (a:Int) (b:LL) (c:Int) (d:Bool):O3:=bif d then some 17 else (aw (u2 (a6.b1 Gr a b c)) (0,0))
def a6.body (Gr:Gr6) (a:Int) (c:Bs) (b:LL) (d:Int):O3:=bif (eqZ a 0) then (((im c).bind fun f=>bif (!f) then some true else some (ltZ 0 (ln b))).bind fun e=>a6.j1 e) else ((bif (!eqZ a 1) then (bif (!eqZ a 2) then some true else (bif (!decide (c=eB)) then some true else (bif (ltZ (ln b) 2) then some true else some (ltZ 16 d)))) else (bif (!decide (c=eB)) then some true else (bif (ltZ (ln b) 2) then some true else some (ltZ 16 d)))).bind fun e=>a6.j2 Gr a b d e)
def a6.rec:Nat->Int->Bs->LL->Int->Option Int
 | 0=>fun _ _ _ _=>none
 | n+1=>a6.body (a6.rec n)
def a6 (a:Int) (b:Bs) (c:LL) (d:Int):O3:=a6.rec Fuel.n a b c d
def kE (a:Int) (b:Bs) (c:LL):O1:=(a6 a b c 0).bind fun d=>some (leZ d 16)
def e8.b1 (d:LB) (a:Int) (b:LB):Option ((Int×LB)⊕LB):=fE d a (fun c=>bif (!decide (c=eB)) then ((app? b ([c]:LB)).bind fun e=>pu a fun f=>some (.inl (f,e))) else (pu a fun g=>some (.inl (g,b)))) <| some (.inr b)
def e8.j1 (a:tF×Bool×LB) (b:Bool):O61:=bif b then some ((0,eB,[]),2) else ((kE a.1.1 a.1.2.1 (a.1.2.2.map (Uun 2))).bind fun c=>bif (!c) then some ((0,eB,[]),6) else some ((a.1.1,a.1.2.1,((a.1.2.2.map (Uun 2)).map (Umk 2))),0))
def e8.j2 (b:LB):O61:=(ak b).bind fun a=>(bif (!a.2.1) then some true else some (ltZ 0 (ln a.2.2))).bind fun c=>e8.j1 a c
def e8 (b:Bs):O61:=bif (ltZ 1000 (ln b)) then some ((0,eB,[]),6) else (((jy ([([40]:Bs),([32,40,32]:Bs),([41]:Bs),([32,41,32]:Bs)]:LB)).bind fun a=>(jt b a.1 a.2.1 a.2.2.1 a.2.2.2).bind fun c=>(strings_Split c ([32]:Bs)).bind fun d=>aw (u2 (e8.b1 d)) (0,[])).bind fun e=>e8.j2 e)
def dW.b1 (c:gd) (a:Int) (b:LB):Option ((Int×LB)⊕LB):=fE c.2.2.2.2.1 a (fun d=>(app? b ([d.1]:LB)).bind fun e=>pu a fun f=>some (.inl (f,e))) <| some (.inr b)
def dW.j1 (a:Int) (b:Bool):O21:=bif b then some (.inr (.inr false)) else (nx a)
def dW.b2 (c:gd) (d:LB) (a:Int):O21:=fE c.2.2.2.2.1 a (fun b=>((iQ b.2).bind fun e=>bif (!e) then some true else ((eH b.2 d).bind fun f=>some f)).bind fun g=>dW.j1 a g) <| some (.inr (.inl ()))
def dW.j2 (a:gd) (b:LB):O1:=(di a.2.2.2.1 b).bind fun c=>bif c then some false else ((e8 a.2.2.2.2.2.2).bind fun d=>some (eqZ d.2 0))
def dW.j3 (a:gd) (b:LB) (d:Bool):O1:=bif d then some false else ((aw (dW.b2 a b) 0).bind fun c=>match c with | .inl c =>    dW.j2 a b | .inr e=>some e)
def dW.j4 (a:gd) (b:LB):O1:=((dv a.1).bind fun c=>bif (!c) then some true else ((e7 a.2.1).bind fun d=>bif (!d) then some true else (bif (ltZ 8000 (ln a.2.2.1)) then some true else ((iQ b).bind fun e=>bif (!e) then some true else (bif (ltZ 30 (ln a.2.2.2.1)) then some true else ((iQ a.2.2.2.2.2.1).bind fun f=>some (!f))))))).bind fun g=>dW.j3 a b g
def dW (a:gd):O1:=(aw (u2 (dW.b1 a)) (0,[])).bind fun b=>dW.j4 a b
def bV.b1 (b:LB) (c:LB) (a:Int):O4:=bif (ltZ a (b.length:Int)) then ((idx b a).bind fun d=>(idx c a).bind fun e=>bif (!decide (d=e)) then some (.inr false) else (nx a)) else some (.inr true)
def bV (a:LB) (b:LB):O1:=bif (!eqZ (a.length:Int) (b.length:Int)) then some false else (aw (bV.b1 a b) 0)
def bp.b1 (Gr:Gr2) (d:LE) (e:LE) (c:Int):O4:=bif (ltZ c (d.length:Int)) then ((idx d c).bind fun a=>(idx e c).bind fun b=>(Gr a.1 a.2.1 a.2.2.1 a.2.2.2.1 a.2.2.2.2.1 (a.2.2.2.2.2.map (Uun 1)) b.1 b.2.1 b.2.2.1 b.2.2.2.1 b.2.2.2.2.1 (b.2.2.2.2.2.map (Uun 1))).bind fun f=>bif (!f) then some (.inr false) else (nx c)) else some (.inr true)
def bp (Gr:Gr2) (a:LE) (b:LE):O1:=bif (!eqZ (a.length:Int) (b.length:Int)) then some false else (aw (bp.b1 Gr a b) 0)
def aW.body (Gr:Gr2) (a:Int) (b:Int) (c:Bs) (d:Bs) (e:LB) (f:LE) (g:Int) (h:Int) (i:Bs) (j:Bs) (k:LB) (l:LE):O1:=bif (eqZ a g) then (bif (eqZ b h) then (bif (decide (c=i)) then (bif (decide (d=j)) then ((bV e k).bind fun m=>bif m then ((bp Gr f l).bind fun n=>some n) else some false) else some false) else some false) else some false) else some false
def aW.rec:Nat->Int->Int->Bs->Bs->LB->LE->Int->Int->Bs->Bs->LB->LE->Option Bool
 | 0=>fun _ _ _ _ _ _ _ _ _ _ _ _=>none
 | n+1=>aW.body (aW.rec n)
def aW (a:Int) (b:Int) (c:Bs) (d:Bs) (e:LB) (f:LE) (g:Int) (h:Int) (i:Bs) (j:Bs) (k:LB) (l:LE):O1:=aW.rec Fuel.n a b c d e f g h i j k l
def ko (a:pA) (b:pA):O1:=bif (decide (a.1=b.1)) then (bif (eqZ a.2.2.1 b.2.2.1) then (bif (decide (a.2.2.2.1=b.2.2.2.1)) then ((bn a.2.1 b.2.1).bind fun c=>bif c then ((bV a.2.2.2.2 b.2.2.2.2).bind fun d=>some d) else some false) else some false) else some false) else some false
def a7.b1 (b:LN) (c:LN) (a:Int):O4:=bif (ltZ a (b.length:Int)) then ((idx b a).bind fun d=>(idx c a).bind fun e=>(ko d e).bind fun f=>bif (!f) then some (.inr false) else (nx a)) else some (.inr true)
def a7 (a:LN) (b:LN):O1:=bif (!eqZ (a.length:Int) (b.length:Int)) then some false else (aw (a7.b1 a b) 0)
def aL.b1 (b:LU) (c:LU) (a:Int):O4:=bif (ltZ a (b.length:Int)) then ((idx b a).bind fun d=>(idx c a).bind fun e=>none) else some (.inr true)
def aL (a:LU) (b:LU):O1:=bif (!eqZ (a.length:Int) (b.length:Int)) then some false else (aw (aL.b1 a b) 0)
def lg (a:gd) (b:gd):O1:=(a7 a.2.2.2.1 b.2.2.2.1).bind fun c=>(aL a.2.2.2.2.1 b.2.2.2.2.1).bind fun d=>bif c then (bif d then (bif (decide (a.1=b.1)) then (bif ((eqZ a.2.1.1 b.2.1.1 && (eqZ a.2.1.2.1 b.2.1.2.1 && eqZ a.2.1.2.2 b.2.1.2.2))) then (bif (decide (a.2.2.1=b.2.2.1)) then ((bV a.2.2.2.2.2.1 b.2.2.2.2.2.1).bind fun e=>bif e then some (decide (a.2.2.2.2.2.2=b.2.2.2.2.2.2)) else some false) else some false) else some false) else some false) else some false) else some false
def fS.b1 (b:LI) (c:LI) (a:Int):O4:=bif (ltZ a (b.length:Int)) then ((idx b a).bind fun d=>(idx c a).bind fun e=>bif (!eqZ d e) then some (.inr false) else (nx a)) else some (.inr true)
def fS (a:LI) (b:LI):O1:=bif (!eqZ (a.length:Int) (b.length:Int)) then some false else (aw (fS.b1 a b) 0)
def oN.j1 (a:lu) (b:lu) (c:Bool):O1:=bif c then ((lg a.2.2.2.1 b.2.2.2.1).bind fun d=>bif d then (bif (eqZ a.1 b.1) then (bif (decide (a.2.1=b.2.1)) then (bif ((eqZ a.2.2.1.1 b.2.2.1.1 && (eqZ a.2.2.1.2.1 b.2.2.1.2.1 && eqZ a.2.2.1.2.2 b.2.2.1.2.2))) then ((fS a.2.2.2.2.2.1 b.2.2.2.2.2.1).bind fun e=>bif e then (bif (eqZ a.2.2.2.2.2.2.1 b.2.2.2.2.2.2.1) then (bif (eqZ a.2.2.2.2.2.2.2.1 b.2.2.2.2.2.2.2.1) then (bif (eqZ a.2.2.2.2.2.2.2.2.1 b.2.2.2.2.2.2.2.2.1) then some (eqZ a.2.2.2.2.2.2.2.2.2 b.2.2.2.2.2.2.2.2.2) else some false) else some false) else some false) else some false) else some false) else some false) else some false) else some false) else some false
def oN (a:lu) (b:lu):O1:=(bif (eqZ a.2.2.2.2.1.1 b.2.2.2.2.1.1) then (bif (decide (a.2.2.2.2.1.2.1=b.2.2.2.2.1.2.1)) then ((bn a.2.2.2.2.1.2.2.1 b.2.2.2.2.1.2.2.1).bind fun c=>bif c then (bif (decide (a.2.2.2.2.1.2.2.2.1=b.2.2.2.2.1.2.2.2.1)) then ((aW a.2.2.2.2.1.2.2.2.2.1 a.2.2.2.2.1.2.2.2.2.2.1 a.2.2.2.2.1.2.2.2.2.2.2.1 a.2.2.2.2.1.2.2.2.2.2.2.2.1 a.2.2.2.2.1.2.2.2.2.2.2.2.2.1 (a.2.2.2.2.1.2.2.2.2.2.2.2.2.2.map (Uun 1)) b.2.2.2.2.1.2.2.2.2.1 b.2.2.2.2.1.2.2.2.2.2.1 b.2.2.2.2.1.2.2.2.2.2.2.1 b.2.2.2.2.1.2.2.2.2.2.2.2.1 b.2.2.2.2.1.2.2.2.2.2.2.2.2.1 (b.2.2.2.2.1.2.2.2.2.2.2.2.2.2.map (Uun 1))).bind fun d=>some d) else some false) else some false) else some false) else some false).bind fun e=>oN.j1 a b e
def gU.j1 (a:lu) (b:Bool) (c:Bool):O7:=bif c then (bif b then ((dv a.2.1).bind fun d=>bif d then none else some (.inl (false,a.1,a.2.1,0,0,0,eB,0,0,0,eB,[],[],[],eB,0,eB,[],eB,0,0,eB,eB,[],[],a.2.2.2.2.2.1,a.2.2.2.2.2.2.1,a.2.2.2.2.2.2.2.1,0,a.2.2.2.2.2.2.2.2.2))) else some (.inl (false,a.1,a.2.1,0,0,0,eB,0,0,0,eB,[],[],[],eB,0,eB,[],eB,0,0,eB,eB,[],[],a.2.2.2.2.2.1,a.2.2.2.2.2.2.1,a.2.2.2.2.2.2.2.1,0,a.2.2.2.2.2.2.2.2.2))) else (bif (eqZ a.1 7) then (bif b then ((dv a.2.1).bind fun e=>bif e then ((e7 a.2.2.1).bind fun f=>bif f then (bif (leZ 0 a.2.2.2.2.2.2.2.2.1) then some (.inl ((leZ a.2.2.2.2.2.2.2.2.1 1073741824),a.1,a.2.1,a.2.2.1.1,a.2.2.1.2.1,a.2.2.1.2.2,eB,0,0,0,eB,[],[],[],eB,0,eB,[],eB,0,0,eB,eB,[],[],[],0,0,a.2.2.2.2.2.2.2.2.1,a.2.2.2.2.2.2.2.2.2)) else some (.inl (false,a.1,a.2.1,a.2.2.1.1,a.2.2.1.2.1,a.2.2.1.2.2,eB,0,0,0,eB,[],[],[],eB,0,eB,[],eB,0,0,eB,eB,[],[],[],0,0,a.2.2.2.2.2.2.2.2.1,a.2.2.2.2.2.2.2.2.2))) else some (.inl (false,a.1,a.2.1,a.2.2.1.1,a.2.2.1.2.1,a.2.2.1.2.2,eB,0,0,0,eB,[],[],[],eB,0,eB,[],eB,0,0,eB,eB,[],[],[],0,0,a.2.2.2.2.2.2.2.2.1,a.2.2.2.2.2.2.2.2.2))) else some (.inl (false,a.1,a.2.1,a.2.2.1.1,a.2.2.1.2.1,a.2.2.1.2.2,eB,0,0,0,eB,[],[],[],eB,0,eB,[],eB,0,0,eB,eB,[],[],[],0,0,a.2.2.2.2.2.2.2.2.1,a.2.2.2.2.2.2.2.2.2))) else some (.inl (false,a.1,a.2.1,a.2.2.1.1,a.2.2.1.2.1,a.2.2.1.2.2,eB,0,0,0,eB,[],[],[],eB,0,eB,[],eB,0,0,eB,eB,[],[],[],0,0,a.2.2.2.2.2.2.2.2.1,a.2.2.2.2.2.2.2.2.2))) else some (.inr false))
def gU.j2 (a:lu) (b:Bool) (c:Bool):O7:=bif c then (bif b then ((dv a.2.1).bind fun d=>bif d then ((e7 a.2.2.1).bind fun e=>some (.inl (e,a.1,a.2.1,a.2.2.1.1,a.2.2.1.2.1,a.2.2.1.2.2,eB,0,0,0,eB,[],[],[],eB,0,eB,[],eB,0,0,eB,eB,[],[],[],0,0,0,a.2.2.2.2.2.2.2.2.2))) else some (.inl (false,a.1,a.2.1,a.2.2.1.1,a.2.2.1.2.1,a.2.2.1.2.2,eB,0,0,0,eB,[],[],[],eB,0,eB,[],eB,0,0,eB,eB,[],[],[],0,0,0,a.2.2.2.2.2.2.2.2.2))) else some (.inl (false,a.1,a.2.1,a.2.2.1.1,a.2.2.1.2.1,a.2.2.1.2.2,eB,0,0,0,eB,[],[],[],eB,0,eB,[],eB,0,0,eB,eB,[],[],[],0,0,0,a.2.2.2.2.2.2.2.2.2))) else (bif (eqZ a.1 3) then (bif b then none else some (.inl (false,a.1,eB,0,0,0,eB,0,0,0,eB,[],[],[],eB,a.2.2.2.2.1.1,a.2.2.2.2.1.2.1,a.2.2.2.2.1.2.2.1,a.2.2.2.2.1.2.2.2.1,a.2.2.2.2.1.2.2.2.2.1,a.2.2.2.2.1.2.2.2.2.2.1,a.2.2.2.2.1.2.2.2.2.2.2.1,a.2.2.2.2.1.2.2.2.2.2.2.2.1,a.2.2.2.2.1.2.2.2.2.2.2.2.2.1,(a.2.2.2.2.1.2.2.2.2.2.2.2.2.2.map (Uun 1)),[],0,0,0,a.2.2.2.2.2.2.2.2.2))) else ((bif (eqZ a.1 4) then some (eqZ a.1 4) else (bif (eqZ a.1 5) then some (eqZ a.1 5) else some (eqZ a.1 6))).bind fun f=>gU.j1 a b f))
def gU.j3 (a:lu) (b:Bool) (c:Int) (d:Bs) (e:Int) (f:Int) (g:Int) (h:Bs) (i:Int) (j:Int) (k:Int) (l:Bs) (m:LN) (n:LU) (o:LB) (p:Bs) (q:Int) (r:Bs) (s:LR) (t:Bs) (u:Int) (v:Int) (w:Bs) (x:Bs) (y:LB) (z:LE) (A:LI) (B:Int) (C:Int) (D:Int) (E:Int):O1:=bif b then ((oN (IF a) (c,d,(e,f,g),(h,(i,j,k),l,m,n,o,p),(q,r,s,t,u,v,w,x,y,(z.map (Umk 1))),A,B,C,D,E)).bind fun F=>some F) else some false
def gU.j4 (a:lu) (c:Bool):O1:=((bif (eqZ a.1 0) then (bif c then ((dW a.2.2.2.1).bind fun d=>some (.inl (d,a.1,eB,0,0,0,a.2.2.2.1.1,a.2.2.2.1.2.1.1,a.2.2.2.1.2.1.2.1,a.2.2.2.1.2.1.2.2,a.2.2.2.1.2.2.1,a.2.2.2.1.2.2.2.1,a.2.2.2.1.2.2.2.2.1,a.2.2.2.1.2.2.2.2.2.1,a.2.2.2.1.2.2.2.2.2.2,0,eB,[],eB,0,0,eB,eB,[],[],[],0,0,0,a.2.2.2.2.2.2.2.2.2))) else some (.inl (false,a.1,eB,0,0,0,a.2.2.2.1.1,a.2.2.2.1.2.1.1,a.2.2.2.1.2.1.2.1,a.2.2.2.1.2.1.2.2,a.2.2.2.1.2.2.1,a.2.2.2.1.2.2.2.1,a.2.2.2.1.2.2.2.2.1,a.2.2.2.1.2.2.2.2.2.1,a.2.2.2.1.2.2.2.2.2.2,0,eB,[],eB,0,0,eB,eB,[],[],[],0,0,0,a.2.2.2.2.2.2.2.2.2))) else ((bif (eqZ a.1 1) then some (eqZ a.1 1) else some (eqZ a.1 2)).bind fun b=>gU.j2 a c b)):Option ((Bool×Int×Bs×Int×Int×Int×Bs×Int×Int×Int×Bs×LN×LU×LB×Bs×Int×Bs×LR×Bs×Int×Int×Bs×Bs×LB×LE×LI×Int×Int×Int×Int)⊕Bool)).bind fun b=>match b with | .inl b =>   u30 (gU.j3 a) b | .inr e=>some e
def gU (a:lu):O1:=(bif (leZ 0 a.2.2.2.2.2.2.2.2.2) then some (leZ a.2.2.2.2.2.2.2.2.2 1073741824) else some false).bind fun b=>gU.j4 a b
def oF (a:lu):O1:=(gU (IF a)).bind fun b=>some (!b)
def cz.b1 (b:LF) (a:Int):O2:=fE b a (fun c=>(oF (IF c)).bind fun d=>bif d then some (.inr a) else (nx a)) <| some (.inr (-1))
def cz (a:LF):O3:=aw (cz.b1 a) 0
def dH (a:LF):O1:=(cz a).bind fun b=>some (leZ 0 b)
def ju (a:LF) (b:og):O1:=(nH b).bind fun c=>bif c then ((dH a).bind fun d=>some (!d)) else some false
def da.b1 (d:LP) (a:mu) (c:Int):O2:=fE d c (fun b=>bif ((decide (a.1=b.1) && (eqZ a.2.1.1 b.2.1.1 && (eqZ a.2.1.2.1 b.2.1.2.1 && (eqZ a.2.1.2.2 b.2.1.2.2 && decide (a.2.2=b.2.2)))))) then some (.inr c) else (nx c)) <| some (.inr (-1))
def da (a:LP) (b:mu):O3:=aw (da.b1 a b) 0
def bN (a:LP) (b:mu):O1:=(da a b).bind fun c=>some (leZ 0 c)
def cmp_isNaN_string (a:Bs):O1:=some (!decide (a=a))
def kr (a:Bs) (b:Bs):O3:=(cmp_isNaN_string a).bind fun d=>(cmp_isNaN_string b).bind fun c=>bif d then (bif c then some 0 else some (-1)) else (bif c then some 1 else (bif (Op.bytesLess a b) then some (-1) else (bif (!(Op.bytesLess a b || decide (a=b))) then some 1 else some 0)))
def oG (a:mu) (b:mu):O3:=(kr a.1 b.1).bind fun c=>(dZ a.2.1 b.2.1).bind fun d=>(kT ([c,d]:LI)).bind fun e=>some e
def aV.j1 (f:Int) (a:Int) (b:LP) (g:Bool):O55:=bif g then (pd a fun c=>pd a fun e=>ix b e fun k=>ix b e fun d=>ix b a fun l=>ix b a fun h=>ix b a fun m=>ix b a fun n=>(idx (b.set a.toNat d) c).bind fun o=>(idx (b.set a.toNat d) c).bind fun p=>pd a fun i=>some (.inl (i,((b.set a.toNat d).set c.toNat h)))) else (Option.map Sum.inr (pu f fun j=>some (.inl (j,b))))
def aV.b1 (d:Int) (e:Int) (a:Int) (b:LP):O55:=(bif (ltZ d a) then (ix b a fun j=>ix b a fun f=>pd a fun c=>ix b c fun k=>ix b c fun g=>(oG f g).bind fun h=>some (ltZ h 0)) else some false).bind fun i=>aV.j1 e a b i
def aV.b2 (c:Int) (d:Int) (a:Int) (b:LP):Option ((Int×LP)⊕LP):=bif (ltZ a d) then (aw (u2 (aV.b1 c a)) (a,b)) else some (.inr b)
def aV (a:Int) (b:Int) (c:LP):O60:=pu a fun d=>aw (u2 (aV.b2 a b)) (d,c)
def db.b1 (c:LP) (a:Int) (b:Int) (d:Int) (e:Bool) (h:Bool):Option ((Int×Int×Int×Bool×Bool)⊕LP):=(z64 (b-a)).bind fun f=>bif (leZ f 12) then ((aV a b c).bind fun g=>some (.inr g)) else (bif (eqZ d 0) then none else (bif (!e) then none else none))
def db (a:Int) (b:Int) (c:Int) (d:LP):O60:=aw (u5 (db.b1 d)) (a,b,c,true,true)
def cG (a:LP):O60:=(bits_Len (IntKind.u64.wrap (ln a))).bind fun b=>(db 0 (ln a) b a).bind fun c=>some c
def bj.b1 (d:Int) (a:LP) (e:Int) (b:Int):O37:=bif (ltZ d b) then (ix a b fun f=>ix a b fun g=>pd b fun c=>ix a c fun h=>ix a c fun i=>none) else (Option.map Sum.inr (nx e))
def bj.b2 (b:Int) (c:Int) (d:LP) (a:Int):O31:=bif (ltZ a c) then (aw (bj.b1 b d a) a) else some (.inr ())
def bj (a:Int) (b:Int) (c:LP):O35:=pu a fun d=>aw (bj.b2 a b c) d
def cH.b1 (c:LP) (a:Int) (b:Int) (d:Int) (e:Bool) (g:Bool):O20:=(z64 (b-a)).bind fun f=>bif (leZ f 12) then ((bj a b c).bind fun h=>some (.inr ())) else (bif (eqZ d 0) then none else (bif (!e) then none else none))
def cH (a:Int) (b:Int) (c:Int) (d:LP):O35:=aw (u5 (cH.b1 d)) (a,b,c,true,true)
def ct (a:LP):O35:=(bits_Len (IntKind.u64.wrap (ln a))).bind fun b=>(cH 0 (ln a) b a).bind fun c=>some ()
def jv.b1 (e:Int) (b:lu) (f:LP) (c:Int) (a:LP):O39:=fE b.2.2.2.1.2.2.2.2.1 c (fun d=>(bN a (b.2.2.2.1.1,(0,0,0),d.1)).bind fun g=>bif (!g) then ((app? a ([(b.2.2.2.1.1,(0,0,0),d.1)]:LP)).bind fun h=>pu c fun i=>some (.inl (i,h))) else (pu c fun j=>some (.inl (j,a)))) <| (Option.map Sum.inr (pu e fun k=>some (.inl (k,f,a))))
def jv.b2 (e:LF) (c:Int) (b:LP) (d:LP):O58:=fE e c (fun a=>bif (!eqZ a.1 0) then (pu c fun f=>some (.inl (f,b,d))) else ((bN b (a.2.2.2.1.1,a.2.2.2.1.2.1,eB)).bind fun g=>bif g then (pu c fun h=>some (.inl (h,b,d))) else ((app? b ([(a.2.2.2.1.1,a.2.2.2.1.2.1,eB)]:LP)).bind fun i=>aw (u2 (jv.b1 c a i)) (0,d)))) <| some (.inr (b,d))
def jv.j1 (b:LP) (a:LP):O60:=(cG b).bind fun c=>(ct a).bind fun e=>(app? c a).bind fun d=>some d
def jv (a:LF) (c:og):O60:=(ju a c).bind fun d=>bif (!d) then some [] else ((aw (u3 (jv.b2 a)) (0,[],[])).bind fun b=>jv.j1 b.1 b.2)
def my (a:lu) (b:Bs) (c:Int) (d:Int) (e:Int):O1:=bif (eqZ a.1 0) then (bif (decide (a.2.2.2.1.1=b)) then some ((eqZ a.2.2.2.1.2.1.1 c && (eqZ a.2.2.2.1.2.1.2.1 d && eqZ a.2.2.2.1.2.1.2.2 e))) else some false) else some false
def cg.b1 (b:LF) (c:Bs) (d:Int) (e:Int) (f:Int) (a:Int):O2:=fE b a (fun g=>(my (IF g) c d e f).bind fun h=>bif h then some (.inr a) else (nx a)) <| some (.inr (-1))
def cg (a:LF) (b:Bs) (c:Int) (d:Int) (e:Int):O3:=aw (cg.b1 a b c d e) 0
def iZ (c:LF) (d:Bs) (a:eS):Option (gd×Int×Bool):=(cg c d a.1 a.2.1 a.2.2).bind fun b=>bif (ltZ b 0) then some ((eB,(0,0,0),eB,[],[],[],eB),0,false) else (ix c b fun e=>some (e.2.2.2.1,b,true))
def dy.b1 (b:LI) (c:Int) (a:Int):O2:=bif (ltZ a (b.length:Int)) then ((idx b a).bind fun d=>bif (eqZ c d) then some (.inr a) else ((z64 (a+1)).bind fun e=>some (.inl e))) else some (.inr (-1))
def dy (a:LI) (b:Int):O3:=aw (fun c=>dy.b1 a b c) 0
def b7 (a:LI) (b:Int):O1:=(dy a b).bind fun c=>some (leZ 0 c)
def bS.j1 (a:Int) (b:LI) (c:Int) (d:Bool):O41:=bif d then ((app? b ([c]:LI)).bind fun e=>pu a fun f=>some (.inl (f,e))) else (pu a fun g=>some (.inl (g,b)))
def bS.b1 (d:LI) (e:LF) (f:LP) (g:LM) (h:LC) (c:Int) (a:LI):O41:=fE d c (fun b=>(z64 (-b)).bind fun i=>(b7 a i).bind fun j=>bif j then some (.inr (.inr (e,h,f,g))) else ((bif (!eqZ b 0) then ((b7 a b).bind fun k=>some (!k)) else some false).bind fun l=>bS.j1 c a b l)) <| some (.inr (.inl a))
def bS.j2 (a:eS) (b:LF) (c:LP) (d:LM) (e:LC) (f:LI):O17:=(app? e ([(f,a)]:LC)).bind fun g=>some (b,g,c,d)
def bS (f:eS) (g:LI) (b:LF) (c:LP) (d:LM) (e:LC):O17:=(aw (u2 (bS.b1 g b c d e)) (0,[])).bind fun a=>match a with | .inl a =>   bS.j2 f b c d e a | .inr h=>some h
def qW (a:tE) (b:eS):O1:=(dZ a.1 b).bind fun c=>bif (leZ c 0) then ((dZ b a.2).bind fun d=>some (ltZ d 0)) else some false
def nI (a:tE) (b:Int) (c:Int) (d:Int):O1:=(qW a (b,c,d)).bind fun e=>some e
def bW.b1 (b:LR) (c:Int) (d:Int) (e:Int) (a:Int):O2:=fE b a (fun f=>(nI f c d e).bind fun g=>bif g then some (.inr a) else (nx a)) <| some (.inr (-1))
def bW (a:LR) (b:Int) (c:Int) (d:Int):O3:=aw (bW.b1 a b c d) 0
def dp (a:LR) (b:Int) (c:Int) (d:Int):O1:=(bW a b c d).bind fun e=>some (leZ 0 e)
def lY (b:LR) (a:eS):O1:=(dp b a.1 a.2.1 a.2.2).bind fun c=>some c
def kL (a:eS) (d:Bs) (b:LR) (e:Int) (f:Bs) (g:LB):O1:=(lY b a).bind fun c=>some c
def dX.j1 (a:Int) (b:LI) (c:Bool):O5:=bif c then (pu a fun d=>(app? b ([d]:LI)).bind fun e=>pu a fun f=>some (.inl (f,e))) else (pu a fun g=>some (.inl (g,b)))
def dX.b1 (e:Bs) (c:LP) (f:Bs) (g:LR) (h:Int) (i:Bs) (j:LB) (a:Int) (d:LI):O5:=fE c a (fun m=>ix c a fun b=>(bif (decide (b.2.2=eB)) then (bif (decide (b.1=e)) then ((kL b.2.1 f g h i j).bind fun k=>some k) else some false) else some false).bind fun l=>dX.j1 a d l) <| some (.inr d)
def dX (a:Bs) (h:LF) (b:LP) (i:LM) (j:LC) (c:Bs) (d:LR) (e:Int) (f:Bs) (g:LB):O8:=aw (u2 (dX.b1 a b c d e f g)) (0,[])
def gp (b:Int):O8:=bif (ltZ b 0) then none else ((z64 ((0:Int)-0)).bind fun c=>(z64 (b-c)).bind fun a=>bif (ltZ 0 a) then ((p6 ((0:Int)=0/\(0:Int)=0)).bind fun e=>(Kr a).bind fun f=>(cut (ri a (0:Int)) 0 0).bind fun d=>some d) else some [])
def cP.b1 (d:L2) (a:Int) (b:Int):O13:=fE d b (fun e=>(z64 (a+(ln e))).bind fun c=>bif (ltZ c 0) then none else (pu b fun f=>some (.inl (c,f)))) <| some (.inr a)
def cP.b2 (c:L2) (a:Int) (b:LI):O5:=fE c a (fun d=>(app? b d).bind fun e=>pu a fun f=>some (.inl (f,e))) <| some (.inr b)
def cP.j1 (a:L2) (b:Int):O8:=(gp b).bind fun c=>aw (u2 (cP.b2 a)) (0,c)
def cP (a:L2):O8:=(aw (u2 (cP.b1 a)) (0,0)).bind fun b=>cP.j1 a b
def bT (a:LI):O8:=pw a ( some []) ( (app? ([]:LI) a).bind fun b=>some b)
def jN (a:mu) (c:LF) (d:LP) (b:LM) (e:LC):O3:=some ((bG b (a.1,a.2.1.1,a.2.1.2.1,a.2.1.2.2,a.2.2)).getD 0)
def dz.j1 (a:Int) (b:LI) (c:Bool):O5:=bif c then (pu a fun d=>(app? b ([d]:LI)).bind fun e=>pu a fun f=>some (.inl (f,e))) else (pu a fun g=>some (.inl (g,b)))
def dz.b1 (e:Bs) (b:LP) (a:Int) (c:LI):O5:=fE b a (fun g=>ix b a fun d=>(bif (decide (d.2.2=eB)) then (bif (decide (d.1=e)) then none else some false) else some false).bind fun f=>dz.j1 a c f) <| some (.inr c)
def dz (a:Bs) (c:LF) (b:LP) (d:LM) (e:LC) (f:Bs) (g:LR) (h:Int) (i:Bs) (j:LB):O8:=aw (u2 (dz.b1 a b)) (0,[])
def eb.b1 (f:pA) (h:eS) (i:LI) (g:Int) (b:LF) (c:LP) (d:LM) (e:LC):O15:=fE f.2.2.2.2 g (fun j=>(bT i).bind fun k=>(jN (f.1,(0,0,0),j) b c d e).bind fun l=>(app? k ([l]:LI)).bind fun m=>(bS h m b c d e).bind fun a=>pu g fun n=>some (.inl (n,a.1,a.2.2.1,a.2.2.2,a.2.1))) <| some (.inr (b,e,c,d))
def eb.b2 (g:eS) (h:LI) (i:LI) (b:Int) (c:LF) (d:LP) (e:LM) (f:LC):O15:=fE i b (fun j=>(bT h).bind fun k=>(z64 (-j)).bind fun l=>(app? k ([l]:LI)).bind fun m=>(bS g m c d e f).bind fun a=>pu b fun n=>some (.inl (n,a.1,a.2.2.1,a.2.2.2,a.2.1))) <| some (.inr (c,f,d,e))
def eb.b3 (g:eS) (h:LI) (i:LI) (b:Int) (c:LF) (d:LP) (e:LM) (f:LC):O15:=fE i b (fun j=>(bT h).bind fun k=>(z64 (-j)).bind fun l=>(app? k ([l]:LI)).bind fun m=>(bS g m c d e f).bind fun a=>pu b fun n=>some (.inl (n,a.1,a.2.2.1,a.2.2.2,a.2.1))) <| some (.inr (c,f,d,e))
def eb (a:pA) (f:eS) (g:LI) (b:LF) (c:LP) (d:LM) (e:LC):O17:=bif (eqZ a.2.2.1 0) then ((dX a.1 b c d e a.1 a.2.1 a.2.2.1 a.2.2.2.1 a.2.2.2.2).bind fun i=>(cP ([g,i]:L2)).bind fun j=>(bS f j b c d e).bind fun h=>aw (u5 (eb.b1 a f g)) (0,h.1,h.2.2.1,h.2.2.2,h.2.1)) else (bif (eqZ a.2.2.1 1) then ((dz a.1 b c d e a.1 a.2.1 a.2.2.1 a.2.2.2.1 a.2.2.2.2).bind fun k=>aw (u5 (eb.b2 f g k)) (0,b,c,d,e)) else (bif (eqZ a.2.2.1 2) then ((dX a.1 b c d e a.1 a.2.1 a.2.2.1 a.2.2.2.1 a.2.2.2.2).bind fun l=>aw (u5 (eb.b3 f g l)) (0,b,c,d,e)) else some (b,e,c,d)))
def mz (a:r9) (b:Bs) (c:Int) (d:Int) (e:Int) (f:Bs) (g:LN) (h:LU) (i:LB) (j:Bs):O1:=bif (decide (a.1=b)) then some ((eqZ a.2.1.1 c && (eqZ a.2.1.2.1 d && eqZ a.2.1.2.2 e))) else some false
def cB.b1 (b:LT) (c:Bs) (d:Int) (e:Int) (f:Int) (g:Bs) (h:LN) (i:LU) (j:LB) (k:Bs) (a:Int):O2:=fE b a (fun l=>(mz l c d e f g h i j k).bind fun m=>bif m then some (.inr a) else (nx a)) <| some (.inr (-1))
def cB (a:LT) (b:Bs) (c:Int) (d:Int) (e:Int) (f:Bs) (g:LN) (h:LU) (i:LB) (j:Bs):O3:=aw (cB.b1 a b c d e f g h i j) 0
def dI (a:LT) (b:Bs) (c:Int) (d:Int) (e:Int) (f:Bs) (g:LN) (h:LU) (i:LB) (j:Bs):O1:=(cB a b c d e f g h i j).bind fun k=>some (leZ 0 k)
def lZ.j1 (a:Int) (b:lu) (c:Bool):Option (Int⊕(lu×Bool)):=bif c then some (.inr ((IF b),true)) else (pd a fun d=>some (.inl d))
def lZ.b1 (e:LF) (f:Int) (g:Int) (d:Bs) (b:eS) (c:Int):Option (Int⊕(lu×Bool)):=bif (leZ 0 c) then (ix e c fun a=>(bif (eqZ a.1 f) then (bif (decide (a.2.1=d)) then some ((eqZ a.2.2.1.1 b.1 && (eqZ a.2.2.1.2.1 b.2.1 && eqZ a.2.2.1.2.2 b.2.2))) else some false) else (bif (eqZ a.1 g) then (bif (decide (a.2.1=d)) then some ((eqZ a.2.2.1.1 b.1 && (eqZ a.2.2.1.2.1 b.2.1 && eqZ a.2.2.1.2.2 b.2.2))) else some false) else some false)).bind fun h=>lZ.j1 c a h) else some (.inr ((0,eB,(0,0,0),(eB,(0,0,0),eB,[],[],[],eB),(0,eB,[],eB,0,0,eB,eB,[],[]),[],0,0,0,0),false))
def lZ (a:LF) (b:Int) (c:Int) (d:Bs) (e:eS):Option (lu×Bool):=(z64 ((ln a)-1)).bind fun f=>aw (lZ.b1 a b c d e) f
def pB (b:LF) (c:Bs) (d:eS):O1:=(lZ b 1 2 c d).bind fun a=>bif a.2 then some (eqZ a.1.1 1) else some false
def sJ (a:Int):O1:=bif (eqZ a 32) then some true else (bif (eqZ a 9) then some true else some (eqZ a 10))
def nY.j1 (a:Int) (b:Bool):O2:=bif b then (nx a) else some (.inr a)
def nY.b1 (b:Bs) (a:Int):O2:=(bif (ltZ a (ln b)) then ((bAt b a).bind fun c=>(sJ c).bind fun d=>some d) else some false).bind fun e=>nY.j1 a e
def nY (a:Bs):O3:=aw (nY.b1 a) 0
def gV (a:Int):O1:=bif (leZ 97 a) then some (leZ a 122) else some false
def iR (a:Int):O1:=bif (leZ 48 a) then some (leZ a 57) else some false
def qX (a:Int):O1:=(gV a).bind fun b=>bif b then some true else ((iR a).bind fun c=>some c)
def jU.j1 (a:Int) (b:Bool):O2:=bif b then (nx a) else some (.inr a)
def jU.b1 (b:Bs) (a:Int):O2:=(bif (ltZ a (ln b)) then ((bAt b a).bind fun c=>(qX c).bind fun d=>some d) else some false).bind fun e=>jU.j1 a e
def jU (a:Bs):O3:=aw (jU.b1 a) 0
def nv (a:Int):O1:=(gV a).bind fun b=>bif b then some true else ((iR a).bind fun c=>some c)
def eY.j1 (a:Int) (b:Bool):O2:=bif b then ((z64 (a+1)).bind fun c=>some (.inl c)) else some (.inr a)
def eY.b1 (b:Bs) (a:Int):O2:=(bif (ltZ a (b.length:Int)) then ((bAt b a).bind fun c=>(nv c).bind fun d=>some d) else some false).bind fun e=>eY.j1 a e
def eY (a:Bs):O3:=aw (fun b=>eY.b1 a b) 0
def ja.j1 (a:Bs) (b:Bool):O1:=bif b then some false else ((eY a).bind fun c=>some (eqZ c (a.length:Int)))
def ja (a:Bs):O1:=(bif (decide (a=([]:Bs))) then some true else ((bAt a 0).bind fun b=>(gV b).bind fun c=>bif (!c) then some true else some (ltZ 20 (a.length:Int)))).bind fun d=>ja.j1 a d
def jV.j1 (a:Int) (b:Bool):O2:=bif b then (nx a) else some (.inr a)
def jV.b1 (b:Bs) (a:Int):O2:=(bif (ltZ a (ln b)) then ((bAt b a).bind fun c=>(iR c).bind fun d=>some d) else some false).bind fun e=>jV.j1 a e
def jV (a:Bs):O3:=aw (jV.b1 a) 0
def cC (b:Bs) (a:Bs):O1:=bif (leZ (a.length:Int) (b.length:Int)) then ((cut b 0 (a.length:Int)).bind fun c=>some (decide (c=a))) else some false
def strings_HasPrefix (a:Bs) (b:Bs):O1:=(cC a b).bind fun c=>some c
def qe.b1 (c:Bs) (a:Int):Option (Int⊕(yI×Int)):=bif (ltZ a 14) then ((idx ([([61,61]:Bs),([59]:Bs),([44]:Bs),([61]:Bs),([60]:Bs),([43]:Bs),([45]:Bs),([42]:Bs),([46]:Bs),([33]:Bs),([40]:Bs),([41]:Bs),([123]:Bs),([125]:Bs)]:LB) a).bind fun b=>(strings_HasPrefix c b).bind fun d=>bif d then some (.inr ((2,b,0,0),0)) else (nx a)) else some (.inr ((0,eB,0,0),10))
def qe (a:Bs):Option (yI×Int):=(bAt a 0).bind fun c=>(gV c).bind fun d=>bif d then ((jU a).bind fun e=>(cut a 0 e).bind fun b=>(ja b).bind fun f=>bif (!f) then some ((0,eB,0,0),12) else some ((0,b,0,0),0)) else ((bAt a 0).bind fun g=>(iR g).bind fun h=>bif h then ((jV a).bind fun i=>(cut a 0 i).bind fun j=>none) else (aw (qe.b1 a) 0))
def sK.b1 (c:Bs) (d:Int) (e:LK):Option ((Int×LK)⊕(Int×Int×LK)):=(cut c d (ln c)).bind fun f=>(nY f).bind fun g=>(z64 (d+g)).bind fun a=>bif (eqZ a (ln c)) then ((app? e ([(3,eB,0,a)]:LK)).bind fun h=>some (.inr (0,0,h))) else ((cut c a (ln c)).bind fun i=>(qe i).bind fun b=>bif (!eqZ b.2 0) then some (.inr (a,b.2,[])) else ((app? e ([(b.1.1,b.1.2.1,b.1.2.2.1,a)]:LK)).bind fun j=>(z64 (a+(ln b.1.2.1))).bind fun k=>some (.inl (k,j))))
def sK (a:Bs):Option (Int×Int×LK):=bif (ltZ 8000 (ln a)) then some (0,6,[]) else (aw (u2 (sK.b1 a)) (0,[]))
def dC (a:Int) (b:LK):Option yI:=ix b a fun d=>ix b a fun c=>some c
def fj (c:Bs) (a:Int) (b:LK):O1:=(dC a b).bind fun d=>bif (!eqZ d.1 3) then ((dC a b).bind fun e=>some (decide (e.2.1=c))) else some false
def gQ (c:Bs) (a:Int) (b:LK):Option (Bool×Int×LK):=(fj c a b).bind fun d=>bif (!d) then some (false,a,b) else (pu a fun e=>some (true,e,b))
def eN (a:Bool) (b:Int) (c:Int) (d:LK):O35:=bif (!a) then none else some ()
def iD (b:Bs) (c:Int) (d:LK):Option (Int×LK):=(gQ b c d).bind fun a=>(eN a.1 11 a.2.1 a.2.2).bind fun e=>some (a.2.1,a.2.2)
def strings_Contains (a:Bs) (b:Bs):O1:=qd a b
def dA (a:Bs):O1:=(ja a).bind fun b=>bif b then ((cat? ([32]:Bs) a).bind fun c=>(cat? c ([32]:Bs)).bind fun d=>(strings_Contains ([32,97,110,100,32,98,97,99,107,32,98,111,111,108,32,99,108,111,99,107,32,101,108,115,101,32,102,97,108,115,101,32,102,105,108,101,115,32,102,110,32,102,111,114,119,97,114,100,32,103,101,116,32,105,102,32,105,110,32,105,110,116,32,108,101,116,32,109,111,100,117,108,101,32,109,111,118,101,32,110,101,116,32,110,111,116,32,111,114,32,112,117,98,32,115,101,99,114,101,116,115,32,115,101,116,32,116,104,101,110,32,116,114,117,101,32,117,115,101,32,118,97,114,32]:Bs) d).bind fun e=>some (!e)) else some false
def jb (a:Int) (b:LK):O1:=(dC a b).bind fun c=>bif (eqZ c.1 0) then ((dC a b).bind fun d=>(dA d.2.1).bind fun e=>some e) else some false
def ku (b:Int) (a:LK):Option (Bs×Int×LK):=(jb b a).bind fun e=>(eN e 11 b a).bind fun g=>pu b fun c=>pd c fun d=>ix a d fun h=>ix a d fun f=>some (f.2.1,c,a)
def bb.b1 (a:Int×LK):O54:=(fj ([117,115,101]:Bs) a.1 a.2).bind fun b=>bif b then none else some (.inr ())
def bb.b2 (a:Int×LK):O54:=(fj ([118,97,114]:Bs) a.1 a.2).bind fun b=>bif b then none else some (.inr ())
def bb.j1 (a:Bool):O54:=bif a then none else some (.inr ())
def bb.b3 (a:Int×LK):O54:=((fj ([112,117,98]:Bs) a.1 a.2).bind fun b=>bif b then some true else ((fj ([102,110]:Bs) a.1 a.2).bind fun c=>some c)).bind fun d=>bb.j1 d
def bb.j2 (c:Bs×Int×LK) (b:Int×LK):O38:=(gQ ([109,111,118,101]:Bs) b.1 b.2).bind fun a=>bif a.1 then none else ((dC a.2.1 a.2.2).bind fun d=>(eN (eqZ d.1 3) 11 a.2.1 a.2.2).bind fun e=>some ((c.1,[],[],[],[],false,[],[],[]),a.2.1,a.2.2))
def bb.j3 (b:Bs×Int×LK) (a:Int×LK):O38:=(aw (fun c=>bb.b3 a) ()).bind fun c=>bb.j2 b a
def bb.j4 (b:Bs×Int×LK) (a:Int×LK):O38:=(aw (fun c=>bb.b2 a) ()).bind fun c=>bb.j3 b a
def bb (d:Int) (e:LK):O38:=(iD ([109,111,100,117,108,101]:Bs) d e).bind fun b=>(ku b.1 b.2).bind fun a=>(iD ([59]:Bs) a.2.1 a.2.2).bind fun c=>(aw (fun f=>bb.b1 c) ()).bind fun f=>bb.j4 a c
def kV (b:Int) (d:Bs) (e:Bool) (c:LK):Option (Int×Bs×LB×Lf×LE×(List uH)×Bool×Lf×LE×LE×LK):=(bb b c).bind fun a=>some (a.2.1,a.1.1,a.1.2.1,(a.1.2.2.1.map (Uun 0)),(a.1.2.2.2.1.map (Uun 1)),a.1.2.2.2.2.1,a.1.2.2.2.2.2.1,(a.1.2.2.2.2.2.2.1.map (Uun 0)),(a.1.2.2.2.2.2.2.2.1.map (Uun 1)),(a.1.2.2.2.2.2.2.2.2.map (Uun 1)),a.2.2)
def mC (a:Int) (b:Bs) (c:Bool) (d:LK):=(kV a b c d).bind fun e=>some (((0:Int),(0:Int),e))
def oH (c:Bs):Option (GZ×Int×Int):=(sK c).bind fun b=>bif (!eqZ b.2.1 0) then some ((eB,[],[],[],[],false,[],[],[]),b.1,b.2.1) else ((mC 0 eB false b.2.2).bind fun a=>bif (!eqZ a.2.1 0) then some ((eB,[],[],[],[],false,[],[],[]),a.1,a.2.1) else some ((a.2.2.2.1,a.2.2.2.2.1,(a.2.2.2.2.2.1.map (Umk 0)),(a.2.2.2.2.2.2.1.map (Umk 1)),a.2.2.2.2.2.2.2.1,a.2.2.2.2.2.2.2.2.1,(a.2.2.2.2.2.2.2.2.2.1.map (Umk 0)),(a.2.2.2.2.2.2.2.2.2.2.1.map (Umk 1)),(a.2.2.2.2.2.2.2.2.2.2.2.1.map (Umk 1))),0,0))
def ar.j1 (a:Int) (b:Bool):O4:=bif b then some (.inr false) else ((z64 (a+1)).bind fun c=>some (.inl c))
def ar.b1 (Gr:Gr7) (c:Lf) (d:Int) (b:Int):O4:=bif (ltZ b (c.length:Int)) then ((idx c b).bind fun a=>((dA a.1).bind fun f=>bif (!f) then some true else (bif (ltZ 0 b) then ((z64 (b-1)).bind fun g=>(idx c g).bind fun e=>bif (Op.bytesLess a.1 e.1 || decide (a.1=e.1)) then some true else ((z64 (d-1)).bind fun h=>(Gr a.2.1 (a.2.2.map (Uun 0)) h).bind fun i=>some (!i))) else ((z64 (d-1)).bind fun j=>(Gr a.2.1 (a.2.2.map (Uun 0)) j).bind fun k=>some (!k)))).bind fun l=>ar.j1 b l) else some (.inr true)
def ar.j2 (Gr:Gr7) (a:Lf) (b:Int) (c:Bool):O1:=bif c then some false else (aw (fun d=>ar.b1 Gr a b d) 0)
def ar.body (Gr:Gr7) (a:Int) (b:Lf) (c:Int):O1:=(bif (eqZ c 0) then some true else (bif (ltZ a 0) then some true else (bif (leZ 3 a) then some true else (bif (ltZ 8 (b.length:Int)) then some true else (bif (!eqZ a 2) then some (ltZ 0 (b.length:Int)) else some false))))).bind fun d=>ar.j2 Gr b c d
def ar.rec:Nat->Int->Lf->Int->Option Bool
 | 0=>fun _ _ _=>none
 | n+1=>ar.body (ar.rec n)
def ar (a:Int) (b:Lf) (c:Int):O1:=ar.rec Fuel.n a b c
def fk (a:Int) (b:Lf):O1:=(ar a b 4).bind fun c=>some c
def dD.j1 (a:Int) (b:LW) (c:iM) (d:Bool):Option ((Int×LW)⊕Bool):=bif d then some (.inr false) else (pu a fun e=>some (.inl (e,(fa b c.1 true))))
def dD.b1 (b:Lf) (e:Int) (c:Int) (d:LW):Option ((Int×LW)⊕Bool):=fE b c (fun a=>(bif ((bG d a.1).getD false) then some true else ((dA a.1).bind fun f=>bif (!f) then some true else ((fk a.2.1 (a.2.2.map (Uun 0))).bind fun g=>some (!g)))).bind fun h=>dD.j1 c d a h) <| some (.inr (leZ (ln b) e))
def dD (a:Lf) (b:Int):O1:=aw (u2 (dD.b1 a b)) (0,([]:LW))
def fT.b1 (a:LE) (b:Int) (c:Int):O4:=fE a c (fun d=>none) <| some (.inr (eqZ (ln a) b))
def fT (a:LE) (b:Int):O1:=aw (fT.b1 a b) 0
def cM.j1 (a:Int) (b:LW) (c:Bs) (d:Bool):O22:=bif d then some (.inr (.inr false)) else (pu a fun e=>some (.inl (e,(fa b c true))))
def cM.b1 (d:LB) (b:Int) (c:LW):O22:=fE d b (fun a=>(bif ((bG c a).getD false) then some true else ((dA a).bind fun e=>some (!e))).bind fun f=>cM.j1 b c a f) <| some (.inr (.inl ()))
def cM.j2 (a:Int) (b:LW) (c:uH) (d:Bool):O22:=bif d then some (.inr (.inr false)) else (pu a fun e=>some (.inl (e,(fa b c.1 true))))
def cM.b2 (d:List uH) (b:Int) (c:LW):O22:=fE d b (fun a=>(bif ((bG c a.1).getD false) then some true else ((dA a.1).bind fun e=>bif (!e) then some true else ((dD (a.2.2.1.map (Uun 0)) 6).bind fun f=>bif (!f) then some true else ((fk a.2.2.2.1.1 (a.2.2.2.1.2.map (Uun 0))).bind fun g=>bif (!g) then some true else none)))).bind fun h=>cM.j2 b c a h) <| some (.inr (.inl ()))
def cM.j3 (a:Lf) (b:LE) (c:LE) (d:Int):O1:=(dD a 8).bind fun e=>bif e then ((fT b d).bind fun f=>bif f then ((fT c (ln a)).bind fun g=>some g) else some false) else some false
def cM.j4 (c:Lf) (d:Bool) (b:Lf) (e:LE) (f:LE) (g:Bool):O1:=bif g then some false else (((bif (!d) then (bif (ltZ 0 (ln b)) then some (.inr false) else some (.inl 0)) else some (.inl (ln c))):Option (Int⊕Bool)).bind fun a=>match a with | .inl a =>    cM.j3 b e f a | .inr h=>some h)
def cM.j5 (b:Bs) (c:LB) (a:Lf) (d:LE) (e:List uH) (f:Bool) (g:Lf) (h:LE) (i:LE):O1:=((dA b).bind fun j=>bif (!j) then some true else (bif (ltZ 12 (ln c)) then some true else (bif (ltZ 30 (ln e)) then some true else ((dD a 8).bind fun k=>bif (!k) then some true else ((fT d (ln a)).bind fun l=>some (!l)))))).bind fun m=>cM.j4 a f g h i m
def cM.j6 (c:Bs) (d:LB) (e:Lf) (f:LE) (a:List uH) (g:Bool) (h:Lf) (i:LE) (j:LE):O1:=(aw (u2 (cM.b2 a)) (0,([]:LW))).bind fun b=>match b with | .inl b =>   cM.j5 c d e f a g h i j | .inr k=>some k
def cM (c:Bs) (a:LB) (d:Lf) (e:LE) (f:List uH) (g:Bool) (h:Lf) (i:LE) (j:LE):O1:=(aw (u2 (cM.b1 a)) (0,([]:LW))).bind fun b=>match b with | .inl b =>   cM.j6 c a d e f g h i j | .inr k=>some k
def bH.b1 (b:List FB) (c:Int) (d:Int) (a:Int):O37:=bif (ltZ c a) then (ix b a fun f=>pd a fun e=>ix b e fun g=>none) else (Option.map Sum.inr (nx d))
def bH.b2 (b:List FB) (c:Int) (d:Int) (a:Int):O31:=bif (ltZ a d) then (aw (bH.b1 b c a) a) else some (.inr ())
def bH (b:List FB) (a:Int) (c:Int):O35:=pu a fun d=>aw (bH.b2 b a c) d
def dn.b1 (c:List FB) (a:Int) (b:Int) (d:Int) (e:Bool) (g:Bool):O20:=(z64 (b-a)).bind fun f=>bif (leZ f 12) then ((bH c a b).bind fun h=>some (.inr ())) else (bif (eqZ d 0) then none else (bif (!e) then none else none))
def dn (a:List FB) (b:Int) (c:Int) (d:Int):O35:=aw (u5 (dn.b1 a)) (b,c,d,true,true)
def eW (a:List FB):O35:=(bits_Len (IntKind.u64.wrap (ln a))).bind fun b=>(dn a 0 (ln a) b).bind fun c=>some ()
def pC.b1 (b:List uH) (a:Int):O31:=fE b a (fun c=>bif (!c.2.1) then (nx a) else none) <| some (.inr ())
def pC.j1 (a:Bs):Option Lb:=(eW []).bind fun b=>some (a,[])
def pC (a:Bs) (c:LB) (d:Lf) (e:LE) (b:List uH) (f:Bool) (g:Lf) (h:LE) (i:LE):Option Lb:=(cM a c d e b f g h i).bind fun j=>bif (!j) then some (eB,[]) else ((aw (pC.b1 b) 0).bind fun k=>pC.j1 a)
def lh.b1 (c:Lb) (a:Int) (b:Int):O13:=fE c.2 b (fun d=>pu b fun e=>some (.inl ((orI .i64 a d.2.2.2),e))) <| some (.inr a)
def lh (b:Bs):O3:=(oH b).bind fun a=>bif (!eqZ a.2.2 0) then some 0 else ((pC a.1.1 a.1.2.1 (a.1.2.2.1.map (Uun 0)) (a.1.2.2.2.1.map (Uun 1)) a.1.2.2.2.2.1 a.1.2.2.2.2.2.1 (a.1.2.2.2.2.2.2.1.map (Uun 0)) (a.1.2.2.2.2.2.2.2.1.map (Uun 1)) (a.1.2.2.2.2.2.2.2.2.map (Uun 1))).bind fun c=>aw (u2 (lh.b1 c)) (0,0))
def nJ (a:Int) (b:Bs) (e:LL) (c:LB):O1:=bif (eqZ a 0) then ((aZ c b).bind fun d=>some d) else (bif (eqZ a 2) then none else none)
def lO (a:Int) (b:Bs) (c:LL) (d:LB):O1:=(kE a b c).bind fun e=>bif e then ((nJ a b c d).bind fun f=>some f) else some false
def cN.j1 (a:Bool):O8:=bif a then ((app? [] ([3]:LI)).bind fun b=>some b) else some []
def cN.j2 (a:LI) (b:Bool):O8:=bif b then ((app? a ([4]:LI)).bind fun c=>some c) else some a
def cN.j3 (a:LI) (b:Bool):O8:=bif b then ((app? a ([6]:LI)).bind fun c=>some c) else some a
def cN.j4 (a:og) (b:LI):O8:=bif a.2.2.2.2 then none else some b
def cN.j5 (c:og) (d:gd) (e:LI):O8:=((e8 d.2.2.2.2.2.2).bind fun a=>(bif (!eqZ a.2 0) then some true else ((lO a.1.1 a.1.2.1 (a.1.2.2.map (Uun 2)) c.2.2.2.1).bind fun f=>some (!f))).bind fun b=>cN.j3 e b).bind fun b=>cN.j4 c b
def cN.j6 (a:og) (b:gd) (c:LI):O8:=((lh b.2.2.1).bind fun d=>bif (!eqZ (anI .i64 d a.2.2.1) 0) then ((app? c ([5]:LI)).bind fun e=>some e) else some c).bind fun f=>cN.j5 a b f
def cN.j7 (c:og) (a:gd) (d:LI):O8:=((bif (ltZ 0 (ln a.2.2.2.2.2.1)) then ((aZ a.2.2.2.2.2.1 c.2.1).bind fun e=>some (!e)) else some false).bind fun b=>cN.j2 d b).bind fun b=>cN.j6 c a b
def cN (c:LF) (d:og) (e:jL) (a:gd):O8:=(dI e.2.2 a.1 a.2.1.1 a.2.1.2.1 a.2.1.2.2 a.2.2.1 a.2.2.2.1 a.2.2.2.2.1 a.2.2.2.2.2.1 a.2.2.2.2.2.2).bind fun f=>((bif (!f) then ((pB c a.1 a.2.1).bind fun g=>some g) else some false).bind fun b=>cN.j1 b).bind fun b=>cN.j7 d a b
def eI (a:LF):Option LF:=some a
def ep.j1 (a:Int) (b:Bool):Option (Unit⊕Int):=bif b then some (.inr a) else some (.inl ())
def ep.r1 (b:mu) (c:Int) (a:lu):Option (Unit⊕Int):=(bif (eqZ a.1 1) then (bif (decide (a.2.1=b.1)) then some ((eqZ a.2.2.1.1 b.2.1.1 && (eqZ a.2.2.1.2.1 b.2.1.2.1 && eqZ a.2.2.1.2.2 b.2.1.2.2))) else some false) else some false).bind fun d=>ep.j1 c d
def ep.j2 (a:Int):O3:=some a
def ep (c:Int) (e:mu) (d:Int) (f:LF) (i:LP) (j:LM) (k:LC):O3:=bif (eqZ c 3) then ((eI f).bind fun g=>(O0 g).bind fun h=>(wa (fun _ a b=>ep.r1 e a.1 a.2) 0 h ()).bind fun b=>match b with | .inl b =>    ep.j2 d | .inr a=>some a) else (bif (eqZ c 7) then none else some d)
def bR.b1 (h:mu) (i:gd×Int×Bool) (j:Int) (k:LI) (f:Int) (b:LF) (c:LP) (d:LM) (e:LC):O11:=fE k f (fun g=>(ep g h i.2.1 b c d e).bind fun l=>(z64 (-j)).bind fun m=>(bS (g,l,(-1)) ([m]:LI) b c d e).bind fun a=>pu f fun n=>some (.inl (n,a.1,a.2.2.1,a.2.2.2,a.2.1))) <| some (.inr (b,c,d,e))
def bR.b2 (a:Int) (b:Int) (c:uG) (d:Int):O37:=fE c.2 d (fun e=>(z64 (-a)).bind fun f=>none) <| (Option.map Sum.inr (nx b))
def bR.b3 (b:gd×Int×Bool) (c:Int) (a:Int):O31:=fE b.1.2.2.2.2.1 a (fun d=>aw (bR.b2 c a d) 0) <| some (.inr ())
def bR.b4 (c:gd×Int×Bool) (i:Int) (b:Int) (j:Bs) (k:Int) (l:Int) (m:Int) (n:Bs) (d:LF) (e:LP) (f:LM) (g:LC):Option ((Int×Bs×Int×Int×Int×Bs×LF×LP×LM×LC)⊕(LF×LC×LP×LM)):=fE c.1.2.2.2.1 b (fun h=>(z64 (-i)).bind fun o=>bif (!decide (h.2.2.2.1=eB)) then none else ((eb h (1,c.2.1,b) ([o]:LI) d e f g).bind fun a=>pu b fun p=>some (.inl (p,j,k,l,m,n,a.1,a.2.2.1,a.2.2.2,a.2.1)))) <| some (.inr (d,g,e,f))
def bR.j1 (a:mu) (b:gd×Int×Bool) (c:Int) (d:LF) (e:LP) (f:LM) (g:LC):O17:=aw (u10 (bR.b4 b c)) (0,a.1,a.2.1.1,a.2.1.2.1,a.2.1.2.2,a.2.2,d,e,f,g)
def bR.j2 (c:mu) (a:gd×Int×Bool) (b:Int) (d:LF) (e:LP) (f:LM) (g:LC):O17:=(aw (bR.b3 a b) 0).bind fun h=>bR.j1 c a b d e f g
def bR (a:mu) (h:og) (i:jL) (b:LF) (d:LP) (e:LM) (f:LC):O17:=(iZ b a.1 a.2.1).bind fun c=>(jN a b d e f).bind fun g=>((cN b h i c.1).bind fun j=>aw (u5 (bR.b1 a c g j)) (0,b,d,e,f)).bind fun k=>u4 (bR.j2 a c g) k
def a8.b1 (f:LP) (a:Int) (d:LF) (c:LP) (e:LM):Option ((Int×LF×LP×LM)⊕(LF×LP×LM)):=bif (ltZ a (ln f)) then (ix c a fun i=>ix c a fun b=>pu a fun g=>pu a fun h=>some (.inl (h,d,c,(fa e (b.1,b.2.1.1,b.2.1.2.1,b.2.1.2.2,b.2.2) g)))) else some (.inr (d,c,e))
def a8.j1 (h:LF) (i:Int) (b:Int) (c:LF) (d:LP) (e:LM) (f:LC) (g:mu) (j:Bool):O9:=bif j then ((iZ h g.1 g.2.1).bind fun k=>pu i fun l=>(z64 (-l)).bind fun m=>pu b fun n=>(z64 (-n)).bind fun o=>(bS (0,k.2.1,(-1)) ([m,o]:LI) c d e f).bind fun a=>pu b fun p=>some (.inl (p,a.1,a.2.2.1,a.2.2.2,a.2.1))) else (pu b fun q=>some (.inl (q,c,d,e,f)))
def a8.j2 (h:LF) (d:Int) (i:mu) (b:Int) (e:LF) (a:LP) (f:LM) (g:LC) (j:Bool):O9:=bif j then (ix a b fun m=>ix a b fun c=>(bif (decide (c.2.2=eB)) then some (decide (c.1=i.1)) else some false).bind fun k=>a8.j1 h d b e a f g c k) else (Option.map Sum.inr (pu d fun l=>some (.inl (l,e,a,f,g))))
def a8.b2 (d:LF) (e:Int) (a:mu) (b:Int) (f:LF) (c:LP) (g:LM) (h:LC):O9:=(bif (ltZ b (ln c)) then some (decide (a.2.2=eB)) else some false).bind fun i=>a8.j2 d e a b f c g h i
def a8.b3 (f:LF) (g:LP) (a:Int) (c:LF) (b:LP) (d:LM) (e:LC):O11:=bif (ltZ a (ln g)) then (ix b a fun j=>ix b a fun h=>pu a fun i=>aw (u5 (a8.b2 f a h)) (i,c,b,d,e)) else some (.inr (c,b,d,e))
def a8.b4 (g:og) (b:Int) (c:LF) (d:LP) (e:LM) (f:LC):O11:=fE g.1 b (fun h=>(eb h (1,(-1),b) [] c d e f).bind fun a=>pu b fun i=>some (.inl (i,a.1,a.2.2.1,a.2.2.2,a.2.1))) <| some (.inr (c,d,e,f))
def a8.b5 (h:og) (i:jL) (j:LP) (a:Int) (d:LF) (b:LP) (e:LM) (f:LC):O11:=bif (ltZ a (ln j)) then (ix b a fun m=>ix b a fun g=>bif (decide (g.2.2=eB)) then ((bR g h i d b e f).bind fun c=>pu a fun k=>some (.inl (k,c.1,c.2.2.1,c.2.2.2,c.2.1))) else (pu a fun l=>some (.inl (l,d,b,e,f)))) else some (.inr (d,b,e,f))
def a8.b6 (b:LP) (a:Int):O31:=fE b a (fun d=>ix b a fun c=>bif (!decide (c.2.2=eB)) then none else (nx a)) <| some (.inr ())
def a8.j3 (a:LC):O40:=bif (ltZ 20000 (ln a)) then some ([],6) else some (a,0)
def a8.j4 (c:LF) (a:LP) (d:LM) (b:LC):O40:=(aw (a8.b6 a) 0).bind fun e=>a8.j3 b
def a8.j5 (b:og) (c:jL) (d:LF) (a:LP) (e:LM) (f:LC):O40:=(aw (u5 (a8.b5 b c a)) (0,d,a,e,f)).bind fun g=>u4 a8.j4 g
def a8.j6 (a:og) (b:jL) (c:LF) (d:LP) (e:LM) (f:LC):O40:=(aw (u5 (a8.b4 a)) (0,c,d,e,f)).bind fun g=>u4 (a8.j5 a b) g
def a8.j7 (b:LF) (c:og) (d:jL) (e:LF) (a:LP) (f:LM):O40:=(aw (u5 (a8.b3 b a)) (0,e,a,f,[])).bind fun g=>u4 (a8.j6 c d) g
def a8 (a:LF) (b:og) (e:jL):O40:=(ju a b).bind fun f=>bif (!f) then some ([],1) else ((jv a b).bind fun c=>bif (ltZ 2000 (ln c)) then some ([],6) else ((aw (u4 (a8.b1 c)) (0,a,c,([]:LM))).bind fun d=>a8.j7 a b e d.1 d.2.1 d.2.2))
def e9.b1 (e:Int) (b:lu) (f:LP) (c:Int) (a:LP):O39:=fE b.2.2.2.1.2.2.2.2.1 c (fun d=>(bN a (b.2.2.2.1.1,(0,0,0),d.1)).bind fun g=>bif (!g) then ((app? a ([(b.2.2.2.1.1,(0,0,0),d.1)]:LP)).bind fun h=>pu c fun i=>some (.inl (i,h))) else (pu c fun j=>some (.inl (j,a)))) <| (Option.map Sum.inr (pu e fun k=>some (.inl (k,f,a))))
def e9.b2 (e:LF) (c:Int) (b:LP) (d:LP):O58:=fE e c (fun a=>bif (!eqZ a.1 0) then (pu c fun f=>some (.inl (f,b,d))) else ((bN b (a.2.2.2.1.1,a.2.2.2.1.2.1,eB)).bind fun g=>bif g then (pu c fun h=>some (.inl (h,b,d))) else ((app? b ([(a.2.2.2.1.1,a.2.2.2.1.2.1,eB)]:LP)).bind fun i=>aw (u2 (e9.b1 c a i)) (0,d)))) <| some (.inr (b,d))
def e9.j1 (b:LP) (a:LP):O60:=(cG b).bind fun c=>(ct a).bind fun e=>(app? c a).bind fun d=>some d
def e9 (a:LF) (c:og):O60:=(ju a c).bind fun d=>bif (!d) then some [] else ((aw (u3 (e9.b2 a)) (0,[],[])).bind fun b=>e9.j1 b.1 b.2)
def cQ.b1 (d:LP) (b:Int) (c:LM):Option ((Int×LM)⊕LM):=fE d b (fun a=>pu b fun e=>pu b fun f=>some (.inl (f,(fa c (a.1,a.2.1.1,a.2.1.2.1,a.2.1.2.2,a.2.2) e)))) <| some (.inr c)
def cQ.j1 (c:LM) (d:r9) (a:Int) (b:LI) (e:Bs) (f:Bool):O18:=bif f then ((app? b ([((bG c (d.1,0,0,0,e)).getD 0)]:LI)).bind fun g=>pu a fun h=>some (.inl (h,g))) else (pu a fun i=>some (.inl (i,b)))
def cQ.b2 (c:LM) (f:Int) (a:r9) (d:Int) (e:LI):O18:=fE a.2.2 d (fun b=>(bif (bG c (a.1,0,0,0,b)).isSome then some (!decide (b=eB)) else some false).bind fun g=>cQ.j1 c a d e b g) <| (Option.map Sum.inr (pu f fun h=>some (.inl (h,e))))
def cQ.j2 (a:LM) (b:Int) (c:r9) (d:LI):O5:=aw (u2 (cQ.b2 a b c)) (0,d)
def cQ.b3 (e:jL) (b:LM) (d:Int) (c:LI):O5:=fE e.2.2 d (fun a=>(bif (bG b (a.1,a.2.1.1,a.2.1.2.1,a.2.1.2.2,eB)).isSome then ((app? c ([((bG b (a.1,a.2.1.1,a.2.1.2.1,a.2.1.2.2,eB)).getD 0)]:LI)).bind fun f=>some f) else some c).bind fun g=>cQ.j2 b d a g) <| some (.inr c)
def cQ.b4 (c:LP) (a:Int) (b:LI):O5:=bif (ltZ a (ln c)) then ((z64 (-a)).bind fun d=>pd d fun e=>(app? b ([e]:LI)).bind fun f=>pu a fun g=>some (.inl (g,f))) else some (.inr b)
def cQ.j3 (a:LP) (b:LI):O8:=aw (u2 (cQ.b4 a)) (0,b)
def cQ.j4 (a:LP) (b:jL) (c:LM):O8:=(aw (u2 (cQ.b3 b c)) (0,[])).bind fun d=>cQ.j3 a d
def cQ (a:LP) (b:jL):O8:=(aw (u2 (cQ.b1 a)) (0,([]:LM))).bind fun c=>cQ.j4 a b c
def lj (a:Int) (b:Int):O1:=bif (eqZ a 0) then some true else ((z64 (-b)).bind fun c=>bif (ltZ a c) then some true else some (ltZ b a))
def eK.b1 (b:LI) (c:Int) (a:Int):O2:=fE b a (fun d=>(lj d c).bind fun e=>bif e then some (.inr a) else (nx a)) <| some (.inr (-1))
def eK (a:LI) (b:Int):O3:=aw (eK.b1 a b) 0
def fU (a:LI) (b:Int):O1:=(eK a b).bind fun c=>some (leZ 0 c)
def mD (a:wO) (b:Int):O1:=(fU a.1 b).bind fun c=>some c
def b8.b1 (b:LC) (c:Int) (a:Int):O2:=fE b a (fun d=>(mD d c).bind fun e=>bif e then some (.inr a) else (nx a)) <| some (.inr (-1))
def b8 (a:LC) (b:Int):O3:=aw (b8.b1 a b) 0
def dd (a:LC) (b:Int):O1:=(b8 a b).bind fun c=>some (leZ 0 c)
def eU.j1 (a:LC) (b:Int) (c:Bool):O1:=bif c then some false else ((dd a b).bind fun d=>some (!d))
def eU (b:LC) (a:Int):O1:=(bif (ltZ a 0) then some true else (bif (ltZ 2000 a) then some true else some (ltZ 20000 (ln b)))).bind fun c=>eU.j1 b a c
def mF (a:Int) (b:Int):O1:=bif (eqZ a 0) then some true else ((z64 (-b)).bind fun c=>bif (ltZ a c) then some true else some (ltZ b a))
def dJ.b1 (b:LI) (c:Int) (a:Int):O2:=fE b a (fun d=>(mF d c).bind fun e=>bif e then some (.inr a) else (nx a)) <| some (.inr (-1))
def dJ (a:LI) (b:Int):O3:=aw (dJ.b1 a b) 0
def fm (a:LI) (b:Int):O1:=(dJ a b).bind fun c=>some (leZ 0 c)
def jc.j1 (a:Int) (b:LI) (c:Bool):O1:=bif c then some false else ((fm b a).bind fun d=>some (!d))
def jc (c:LC) (a:Int) (b:LI):O1:=((eU c a).bind fun d=>bif (!d) then some true else some (ltZ 2000 (ln b))).bind fun e=>jc.j1 a b e
def nK (a:Int) (b:Int):O1:=bif (eqZ a 0) then some true else ((z64 (-b)).bind fun c=>bif (ltZ a c) then some true else some (ltZ b a))
def dK.b1 (b:LI) (c:Int) (a:Int):O2:=fE b a (fun d=>(nK d c).bind fun e=>bif e then some (.inr a) else (nx a)) <| some (.inr (-1))
def dK (a:LI) (b:Int):O3:=aw (dK.b1 a b) 0
def b9 (a:LI) (b:Int):O1:=(dK a b).bind fun c=>some (leZ 0 c)
def aY (a:LC):Option LC:=pw a ( some []) ( (app? ([]:LC) a).bind fun b=>some b)
def bo.b1 (d:L2) (a:Int) (b:Int):O13:=fE d b (fun e=>(z64 (a+(ln e))).bind fun c=>bif (ltZ c 0) then none else (pu b fun f=>some (.inl (c,f)))) <| some (.inr a)
def bo.b2 (c:L2) (a:Int) (b:LI):O5:=fE c a (fun d=>(app? b d).bind fun e=>pu a fun f=>some (.inl (f,e))) <| some (.inr b)
def bo.j1 (a:L2) (b:Int):O8:=(gp b).bind fun c=>aw (u2 (bo.b2 a)) (0,c)
def bo (a:L2):O8:=(aw (u2 (bo.b1 a)) (0,0)).bind fun b=>bo.j1 a b
def jw (a:Int):O1:=bif (!eqZ a 0) then (bif (leZ (-2000) a) then some (leZ a 2000) else some false) else some false
def dE.j1 (d:Int) (e:LI) (b:L2) (c:List (Int×LI)) (a:Int) (f:Bool):O23:=bif f then ((app? e ([a]:LI)).bind fun g=>(app? ((bG c a).getD []) ([(ln b)]:LI)).bind fun h=>(p6 (a=a)).bind fun k=>pu d fun i=>some (.inl (i,g,b,(fa c a h)))) else (pu d fun j=>some (.inl (j,e,b,c)))
def dE.b1 (f:LI) (c:Int) (a:LI) (d:L2) (e:List (Int×LI)):O23:=fE f c (fun b=>((jw b).bind fun g=>bif g then ((b7 a b).bind fun h=>some (!h)) else some false).bind fun i=>dE.j1 c a d e b i) <| (Option.map Sum.inr ((app? d ([a]:L2)).bind fun j=>some (j,e)))
def dE (a:LI) (b:L2) (c:List (Int×LI)):Option (L2×List (Int×LI)):=aw (u4 (dE.b1 a)) (0,[],b,c)
def iq.b1 (b:LC) (a:Int) (c:L2) (d:List (Int×LI)):Option ((Int×L2×List (Int×LI))⊕(L2×List (Int×LI))):=bif (ltZ a (b.length:Int)) then ((idx b a).bind fun f=>(dE f.1 c d).bind fun e=>(z64 (a+1)).bind fun g=>some (.inl (g,e.1,e.2))) else some (.inr (c,d))
def iq (b:LC):Option (L2×List (Int×LI)):=aw (fun a=>iq.b1 b a.1 a.2.1 a.2.2) (0,[],([]:List (Int×LI)))
def gq (a:Int):O1:=(jw a).bind fun b=>some (!b)
def dL.b1 (b:LI) (a:Int):O2:=fE b a (fun c=>(gq c).bind fun d=>bif d then some (.inr a) else (nx a)) <| some (.inr (-1))
def dL (a:LI):O3:=aw (dL.b1 a) 0
def eA.b1 (b:Int) (c:Int) (a:LI):Option ((Int×Int×LI)⊕LI):=fE a c (fun j=>ix a c fun d=>(gq d).bind fun e=>bif (!e) then (ix a b fun k=>ix a b fun l=>pu b fun f=>pu c fun g=>some (.inl (f,g,(a.set b.toNat d)))) else (pu c fun h=>some (.inl (b,h,a)))) <| (Option.map Sum.inr ((cut a b (ln a)).bind fun m=>(p6 (b.toNat<=(ln a).toNat/\(ln a).toNat<=a.length)).bind fun n=>(cut (M9 a b (ln a) 0) 0 b).bind fun i=>some i))
def eA (a:LI):O8:=(dL a).bind fun b=>bif (eqZ b (-1)) then some a else (pu b fun c=>aw (u3 eA.b1) (b,c,a))
def l4.b1 (f:LI) (d:LZ) (a:Int) (b:Int):Option ((Int×Int)⊕(Int×Bool)):=fE f b (fun e=>(z64 ((2000:Int)-e)).bind fun c=>(fL 0 c 4001).bind fun j=>(idx d (0+c * 1)).bind fun k=>(idx d (0+c * 1)).bind fun g=>bif g then (pu b fun h=>some (.inl (a,h))) else (bif (!eqZ a 0) then some (.inr (0,false)) else (pu b fun i=>some (.inl (e,i))))) <| some (.inr (a,true))
def l4 (a:LI) (b:LZ):O56:=aw (u2 (l4.b1 a b)) (0,0)
def bM.b1 (b:L2×List (Int×LI)) (a:Int) (c:LI):Option ((Int×LI)⊕(LI⊕(Bool×LZ))):=bif (ltZ a (b.1.length:Int)) then ((idx b.1 a).bind fun d=>bif (eqZ (d.length:Int) 0) then some (.inr (.inr (false,(List.replicate 4001 false)))) else ((idx b.1 a).bind fun e=>bif (eqZ (e.length:Int) 1) then ((idx b.1 a).bind fun f=>(idx f 0).bind fun g=>(app? c ([g]:LI)).bind fun h=>(z64 (a+1)).bind fun i=>some (.inl (i,h))) else ((z64 (a+1)).bind fun j=>some (.inl (j,c))))) else some (.inr (.inl c))
def bM.j1 (d:LZ) (e:Int) (a:Int) (b:LI) (c:Int×Bool) (f:Bool):O44:=bif f then some (.inr (.inr (false,(d.set (0+e * 1).toNat true)))) else (bif c.2 then ((app? b ([c.1]:LI)).bind fun g=>(z64 (a+1)).bind fun h=>some (.inl (h,g))) else ((z64 (a+1)).bind fun i=>some (.inl (i,b))))
def bM.b2 (a:L2×List (Int×LI)) (b:LZ) (c:Int) (f:Int) (d:Int) (g:LI):O44:=bif (ltZ d (((bG a.2 f).getD []).length:Int)) then ((idx ((bG a.2 f).getD []) d).bind fun h=>(idx a.1 h).bind fun i=>(l4 i (b.set (0+c * 1).toNat true)).bind fun e=>(bif e.2 then some (eqZ e.1 0) else some false).bind fun j=>bM.j1 b c d g e j) else some (.inr (.inl ((b.set (0+c * 1).toNat true),g)))
def bM.b3 (i:L2×List (Int×LI)) (a:LZ) (c:LI):Option ((LZ×LI)⊕(Bool×LZ)):=bif (ltZ 0 (c.length:Int)) then ((idx c 0).bind fun m=>(idx c 0).bind fun d=>(cut c 1 (c.length:Int)).bind fun g=>(z64 ((2000:Int)+d)).bind fun e=>(fL 0 e 4001).bind fun n=>(idx a (0+e * 1)).bind fun o=>(idx a (0+e * 1)).bind fun j=>bif j then some (.inl (a,g)) else ((z64 ((2000:Int)+d)).bind fun b=>(fL 0 b 4001).bind fun p=>(idx a (0+b * 1)).bind fun q=>(idx a (0+b * 1)).bind fun r=>(z64 ((2000:Int)-d)).bind fun f=>(fL 0 f 4001).bind fun s=>(idx (a.set (0+b * 1).toNat true) (0+f * 1)).bind fun t=>(idx (a.set (0+b * 1).toNat true) (0+f * 1)).bind fun k=>bif k then some (.inr (false,(a.set (0+b * 1).toNat true))) else ((z64 (-d)).bind fun l=>aw (fun h=>bM.b2 i a b l h.1 h.2) (0,g)))) else some (.inr (true,a))
def bM.j2 (b:L2×List (Int×LI)) (c:LI):Option (Bool×LZ):=aw (fun a=>bM.b3 b a.1 a.2) ((List.replicate 4001 false),c)
def bM (b:L2×List (Int×LI)) (c:LI):Option (Bool×LZ):=(bT c).bind fun d=>(eA d).bind fun e=>(aw (fun a=>bM.b1 b a.1 a.2) (0,e)).bind fun a=>match a with | .inl a=>bM.j2 b a | .inr f=>some f
def bC.b1 (c:Bool×LZ) (a:Int) (b:LI):Option ((Int×LI)⊕(Bool×LI)):=bif (ltZ a 4001) then ((fL 0 a 4001).bind fun i=>(idx c.2 (0+a * 1)).bind fun j=>(idx c.2 (0+a * 1)).bind fun d=>bif d then ((z64 (a-2000)).bind fun e=>(app? b ([e]:LI)).bind fun f=>(z64 (a+1)).bind fun g=>some (.inl (g,f))) else ((z64 (a+1)).bind fun h=>some (.inl (h,b)))) else some (.inr (true,b))
def bC (c:LC) (d:LI):Option (Bool×LI):=(iq c).bind fun e=>(bM e d).bind fun a=>bif (!a.1) then some (false,[]) else (aw (fun b=>bC.b1 a b.1 b.2) (0,[]))
def yK:Int->LZ->LI
 | _,[]=>[]
 | v,b::r=>cond b ((v-2000)::yK (v+1) r) (yK (v+1) r)
def Aw (b:LC) (c:LI):Option (Bool×LI):=(iq b).bind fun d=>(bM d c).bind fun a=>cond a.1 (cond (Nat.beq a.2.length 4001 && Nat.ble 4002 Fuel.n) (some (true,yK 0 a.2)) none) (some (false,[]))
def cmp_Less_int (a:Int) (b:Int):O1:=(cmp_isNaN_int a).bind fun c=>bif c then ((cmp_isNaN_int b).bind fun d=>bif (!d) then some true else some (ltZ a b)) else some (ltZ a b)
def jO (a:Int):O1:=some (!eqZ a a)
def aP.b1 (d:LI) (e:Int) (a:Int) (b:Int):O13:=bif (ltZ a b) then ((z64 (a+b)).bind fun f=>(M8 .u64 (IntKind.u64.wrap f) 1).bind fun c=>(idx d (IntKind.i64.wrap c)).bind fun g=>(cmp_Less_int g e).bind fun h=>bif h then ((z64 ((IntKind.i64.wrap c)+1)).bind fun i=>some (.inl (i,b))) else some (.inl (a,(IntKind.i64.wrap c)))) else some (.inr a)
def aP.j1 (b:LI) (c:Int) (a:Int):O56:=fE b a (fun d=>bif (eqZ d c) then some (a,true) else (ix b a fun e=>(jO e).bind fun f=>bif f then ((jO c).bind fun g=>some (a,g)) else some (a,false))) <| some (a,false)
def aP (a:LI) (b:Int):O56:=(aw (u2 (aP.b1 a b)) (0,(ln a))).bind fun c=>aP.j1 a b c
def gW.j1 (a:Int) (b:Bool):O2:=bif b then some (.inr a) else (nx a)
def gW.b1 (b:LI) (c:Int) (a:Int):O2:=bif (ltZ a c) then (pu a fun d=>(aP b d).bind fun e=>(z64 (-a)).bind fun f=>pd f fun g=>(aP b g).bind fun h=>(bif (!e.2) then some (!h.2) else some false).bind fun i=>gW.j1 a i) else some (.inr c)
def gW (a:LI) (b:Int):O3:=aw (gW.b1 a b) 0
def cZ.b1 (b:LI) (a:Int) (c:LI):O5:=fE b a (fun h=>ix b a fun d=>(z64 (-d)).bind fun e=>(app? c ([e]:LI)).bind fun f=>pu a fun g=>some (.inl (g,f))) <| some (.inr c)
def cZ.j1 (d:LC) (e:L2) (a:LI) (b:LI):Option ((LC×L2×LI)⊕((LC×L2×LI)⊕(LZ×L2×Int))):=(app? e ([b]:L2)).bind fun c=>(app? d ([(b,0,0,0)]:LC)).bind fun f=>bif (eqZ (ln a) 0) then some (.inr (.inr ([],c,26))) else ((z64 ((ln a)-1)).bind fun g=>(cut a 0 g).bind fun h=>some (.inr (.inl (f,c,h))))
def cZ.b2 (c:Int) (d:Bool×LI) (a:Int) (b:LZ):Option ((Int×LZ)⊕((LC×L2×LI)⊕(LZ×L2×Int))):=bif (ltZ a c) then (pu a fun e=>(aP d.2 e).bind fun f=>ix b a fun h=>ix b a fun i=>pu a fun g=>some (.inl (g,(b.set a.toNat f.2)))) else some (.inr (.inr (b,[],0)))
def cZ.j2 (a:Int) (b:Bool×LI) (d:LC) (e:L2) (f:LI):O50:=(gW b.2 a).bind fun c=>bif (ltZ c a) then ((z64 (-c)).bind fun g=>pd g fun h=>(app? f ([h]:LI)).bind fun i=>some (.inl (d,e,i))) else ((pN a a).bind fun j=>aw (u2 (cZ.b2 a b)) (0,(ri a (false:Bool))))
def cZ.b3 (f:Int) (g:LI) (c:LC) (d:L2) (b:LI):O50:=(bo ([g,b]:L2)).bind fun h=>(Aw c h).bind fun e=>((bif (!e.1) then (bif (eqZ (ln d) 4000) then some (.inr (.inr ([],[],6))) else ((aw (u2 (cZ.b1 b)) (0,[])).bind fun a=>cZ.j1 c d b a)) else some (.inl (c,d,b))):Option ((LC×L2×LI)⊕((LC×L2×LI)⊕(LZ×L2×Int)))).bind fun a=>match a with | .inl a =>   u3 (cZ.j2 f e) a | .inr i=>some i
def cZ.j3 (a:LC) (b:Int) (c:LI) (d:Bool):Option (LZ×L2×Int):=bif d then some ([],[],1) else ((aY a).bind fun e=>aw (u3 (cZ.b3 b c)) (e,[],[]))
def cZ (b:LC) (a:Int) (c:LI):Option (LZ×L2×Int):=((eU b a).bind fun d=>bif (!d) then some true else ((b9 c a).bind fun e=>some e)).bind fun f=>cZ.j3 b a c f
def cJ.b1 (b:LI) (a:Int) (c:LI):O5:=fE b a (fun h=>ix b a fun d=>(z64 (-d)).bind fun e=>(app? c ([e]:LI)).bind fun f=>pu a fun g=>some (.inl (g,f))) <| some (.inr c)
def cJ.j1 (d:LC) (e:L2) (a:LI) (b:LI):O28:=(app? e ([b]:L2)).bind fun c=>(app? d ([(b,0,0,0)]:LC)).bind fun f=>bif (eqZ (ln a) 0) then some (.inr (.inr (c,26,[]))) else ((z64 ((ln a)-1)).bind fun g=>(cut a 0 g).bind fun h=>some (.inr (.inl (f,c,h))))
def cJ.b2 (c:Int) (d:Bool×LI) (a:Int) (b:LZ):O32:=bif (ltZ a c) then (pu a fun e=>(aP d.2 e).bind fun f=>ix b a fun h=>ix b a fun i=>pu a fun g=>some (.inl (g,(b.set a.toNat f.2)))) else some (.inr (.inr ([],0,b)))
def cJ.j2 (a:Int) (b:Bool×LI) (d:LC) (e:L2) (f:LI):O16:=(gW b.2 a).bind fun c=>bif (ltZ c a) then ((z64 (-c)).bind fun g=>pd g fun h=>(app? f ([h]:LI)).bind fun i=>some (.inl (d,e,i))) else ((pN a a).bind fun j=>aw (u2 (cJ.b2 a b)) (0,(ri a (false:Bool))))
def cJ.b3 (f:Int) (g:LI) (c:LC) (d:L2) (b:LI):O16:=(bo ([g,b]:L2)).bind fun h=>(Aw c h).bind fun e=>((bif (!e.1) then (bif (eqZ (ln d) 4000) then some (.inr (.inr ([],6,[]))) else ((aw (u2 (cJ.b1 b)) (0,[])).bind fun a=>cJ.j1 c d b a)) else some (.inl (c,d,b))):Option ((LC×L2×LI)⊕((LC×L2×LI)⊕(L2×Int×LZ)))).bind fun a=>match a with | .inl a =>   u3 (cJ.j2 f e) a | .inr i=>some i
def cJ.j3 (a:LC) (b:Int) (c:LI) (d:Bool):O46:=bif d then some ([],1,[]) else ((aY a).bind fun e=>aw (u3 (cJ.b3 b c)) (e,[],[]))
def cJ (b:LC) (a:Int) (c:LI):O46:=((eU b a).bind fun d=>bif (!d) then some true else ((b9 c a).bind fun e=>some e)).bind fun f=>cJ.j3 b a c f
def jW.b1 (h:LC) (i:Int) (j:LI) (b:Int) (c:LI) (d:LZ) (e:L3):Option ((Int×LI×LZ×L3)⊕((LI×LZ×L3)⊕(LZ×LZ×L3×Int))):=fE j b (fun f=>(bT c).bind fun k=>(app? k ([f]:LI)).bind fun g=>(cJ h i g).bind fun a=>bif (eqZ a.2.1 0) then ((app? d ([true]:LZ)).bind fun l=>(app? e ([[]]:L3)).bind fun m=>pu b fun n=>some (.inl (n,g,l,m))) else (bif (eqZ a.2.1 26) then ((z64 (-f)).bind fun o=>(app? c ([o]:LI)).bind fun p=>(app? d ([false]:LZ)).bind fun q=>(app? e ([a.1]:L3)).bind fun r=>pu b fun s=>some (.inl (s,p,q,r))) else some (.inr (.inr ([],[],[],a.2.1))))) <| some (.inr (.inl (c,d,e)))
def jW.j1 (b:LC) (c:Int) (d:LI) (e:LZ) (f:L3):Option (LZ×LZ×L3×Int):=(cJ b c d).bind fun a=>bif (!eqZ a.2.1 0) then some ([],[],[],a.2.1) else some (a.2.2,e,f,0)
def jW (a:LC) (b:Int) (d:LI):Option (LZ×LZ×L3×Int):=(jc a b d).bind fun f=>bif (!f) then some ([],[],[],1) else ((cZ a b []).bind fun e=>bif (!eqZ e.2.2 0) then some ([],[],[],e.2.2) else ((aw (u4 (jW.b1 a b d)) (0,[],([]:LZ),([]:L3))).bind fun c=>match c with | .inl c =>     u3 (jW.j1 a b) c | .inr g=>some g))
def fp (a:LN):Option LN:=pw a ( some []) ( (app? ([]:LN) a).bind fun b=>some b)
def er (a:LR):Option LR:=pw a ( some []) ( (app? ([]:LR) a).bind fun b=>some b)
def gg (a:LB):Option LB:=pw a ( some []) ( (app? ([]:LB) a).bind fun b=>some b)
def fD (a:LB):Option LB:=pw a ( some []) ( (app? ([]:LB) a).bind fun b=>some b)
def jX.b1 (j:LN) (a:Int) (e:Bs) (f:Int) (g:LB) (h:Bool) (b:LN):Option ((Int×Bs×Int×LB×Bool×LN)⊕(Bs×Int×LB×Bool×LN)):=bif (ltZ a (ln j)) then (ix b a fun o=>ix b a fun k=>(er k.2.1).bind fun i=>ix b a fun l=>(gg l.2.2.2.2).bind fun m=>ix b a fun c=>(idx (b.set a.toNat (c.1,i,c.2.2)) a).bind fun d=>pu a fun n=>some (.inl (n,e,f,g,h,((b.set a.toNat (c.1,i,c.2.2)).set a.toNat (d.1,d.2.1,d.2.2.1,d.2.2.2.1,m))))) else some (.inr (e,f,g,h,b))
def jX.j1 (a:Bs) (b:Int) (c:LB) (d:Bool) (e:LN):Option og:=(fD c).bind fun f=>some (e,a,b,f,d)
def jX (a:og):Option og:=(fp a.1).bind fun b=>(aw (u6 (jX.b1 b)) (0,a.2.1,a.2.2.1,a.2.2.2.1,a.2.2.2.2,b)).bind fun c=>u5 jX.j1 c
def gX.j1 (a:Int) (b:Bs) (c:Int) (d:Int) (e:Int) (f:LB) (g:mu) (h:Bool):O27:=bif h then ((app? f ([g.2.2]:LB)).bind fun i=>pu a fun j=>some (.inl (j,b,c,d,e,i))) else (pu a fun k=>some (.inl (k,b,c,d,e,f)))
def gX.b1 (h:LZ) (i:Int) (j:LT) (k:mu) (l:LP) (a:Int) (c:Bs) (d:Int) (e:Int) (f:Int) (g:LB):O27:=fE l a (fun b=>(ix h a fun m=>bif m then (bif (!decide (b.2.2=eB)) then some (decide (b.1=k.1)) else some false) else some false).bind fun n=>gX.j1 a c d e f g b n) <| (Option.map Sum.inr ((app? j ([(c,(d,e,f),g)]:LT)).bind fun o=>pu i fun p=>some (.inl (p,o))))
def gX.j2 (b:LP) (c:LZ) (d:Int) (e:LT) (a:mu) (f:Bool):Option ((Int×LT)⊕LT):=bif f then (pu d fun g=>some (.inl (g,e))) else ((cut b 0 (min (ln b) (ln c))).bind fun h=>aw (u6 (gX.b1 c d e a h)) (0,a.1,a.2.1.1,a.2.1.2.1,a.2.1.2.2,[]))
def gX.b2 (e:LP) (b:LZ) (f:LP) (a:Int) (c:LT):Option ((Int×LT)⊕LT):=fE f a (fun d=>(bif (!decide (d.2.2=eB)) then some true else (ix b a fun g=>some (!g))).bind fun h=>gX.j2 e b a c d h) <| some (.inr c)
def gX (a:LP) (b:LZ):Option LT:=(cut a 0 (min (ln a) (ln b))).bind fun c=>aw (u2 (gX.b2 a b c)) (0,[])
def jP.j1 (a:LC×Int) (b:Bool):O3:=bif b then some 6 else some a.2
def jP.j2 (c:LF) (d:og) (f:jL) (g:LC×Int) (e:Int):O57:=bif (!eqZ e 0) then some ((([],eB,0,[],false),0,[]),[],e) else ((e9 c d).bind fun b=>(cQ b f).bind fun h=>(jW g.1 (ln b) h).bind fun a=>bif (!eqZ a.2.2.2 0) then some ((([],eB,0,[],false),0,[]),[],a.2.2.2) else ((jX d).bind fun i=>(gX b a.1).bind fun j=>some ((i,(ln c),j),a.2.2.1,0)))
def jP (a:LF) (d:og) (e:jL):O57:=(a8 a d e).bind fun b=>((bif (eqZ b.2 0) then some (ltZ 200000 (ln a)) else some false).bind fun c=>jP.j1 b c).bind fun c=>jP.j2 a d e b c
def je.j1 (a:Int) (b:Bool):O4:=bif b then some (.inr false) else (nx a)
def je.b1 (b:LB) (e:Int) (a:Int):O4:=fE b a (fun c=>((dv c).bind fun f=>bif (!f) then some true else (bif (ltZ 0 a) then (pd a fun g=>ix b g fun d=>some (Op.bytesLess c d || decide (c=d))) else some false)).bind fun h=>je.j1 a h) <| some (.inr (leZ (ln b) e))
def je (a:LB) (b:Int):O1:=aw (je.b1 a b) 0
def fA.j1 (a:Int) (b:LB) (c:Bool):O24:=bif c then some (.inr (.inr false)) else (pu a fun d=>some (.inl (d,b)))
def fA.b1 (d:jL) (b:Int) (c:LB):O24:=fE d.2.2 b (fun a=>(app? c ([a.1]:LB)).bind fun e=>((e7 a.2.1).bind fun f=>bif (!f) then some true else ((je a.2.2 12).bind fun g=>some (!g))).bind fun h=>fA.j1 b e h) <| some (.inr (.inl c))
def fA.b2 (b:jL) (a:Int):O21:=fE b.1.1 a (fun c=>(eG c []).bind fun d=>bif (!d) then some (.inr (.inr false)) else (nx a)) <| some (.inr (.inl ()))
def fA.j2 (a:jL) (b:LB):O1:=(je b (ln b)).bind fun c=>bif c then (bif (leZ (ln a.1.1) 30) then (bif (eqZ (anI .i64 a.1.2.2.1 15) 0) then (bif (leZ 0 a.2.1) then some (leZ a.2.1 200000) else some false) else some false) else some false) else some false
def fA.j3 (a:jL) (c:LB):O1:=(aw (fA.b2 a) 0).bind fun b=>match b with | .inl b =>   fA.j2 a c | .inr d=>some d
def fA (b:jL):O1:=(aw (u2 (fA.b1 b)) (0,[])).bind fun a=>match a with | .inl a =>   fA.j3 b a | .inr c=>some c
def mG (c:LF) (a:jL):O57:=(fA a).bind fun d=>bif (!d) then some ((([],eB,0,[],false),0,[]),[],1) else (bif (ltZ (ln c) a.2.1) then some ((([],eB,0,[],false),0,[]),[],7) else ((jP c a.1 a).bind fun b=>some (b.1,b.2.1,b.2.2)))
def slices_Delete_int (a b:Int) (c:LI):O8:=NN c a b
def mH (b:LI) (a:Int):O8:=(bT b).bind fun c=>pu a fun d=>(slices_Delete_int a d c).bind fun e=>some e
def gh.b1 (c:LC) (d:LI) (a:Int) (b:LC):Option ((Int×LC)⊕LC):=fE d a (fun e=>ix c e fun f=>(app? b ([f]:LC)).bind fun g=>pu a fun h=>some (.inl (h,g))) <| some (.inr b)
def gh (a:LC) (b:LI):Option LC:=aw (u2 (gh.b1 a b)) (0,[])
def cW.b1 (b:LI) (a:Int) (c:LI):O5:=fE b a (fun h=>ix b a fun d=>(z64 (-d)).bind fun e=>(app? c ([e]:LI)).bind fun f=>pu a fun g=>some (.inl (g,f))) <| some (.inr c)
def cW.j1 (d:LC) (e:L2) (a:LI) (b:LI):O28:=(app? e ([b]:L2)).bind fun c=>(app? d ([(b,0,0,0)]:LC)).bind fun f=>bif (eqZ (ln a) 0) then some (.inr (.inr (c,26,[]))) else ((z64 ((ln a)-1)).bind fun g=>(cut a 0 g).bind fun h=>some (.inr (.inl (f,c,h))))
def cW.b2 (c:Int) (d:Bool×LI) (a:Int) (b:LZ):O32:=bif (ltZ a c) then (pu a fun e=>(aP d.2 e).bind fun f=>ix b a fun h=>ix b a fun i=>pu a fun g=>some (.inl (g,(b.set a.toNat f.2)))) else some (.inr (.inr ([],0,b)))
def cW.j2 (a:Int) (b:Bool×LI) (d:LC) (e:L2) (f:LI):O16:=(gW b.2 a).bind fun c=>bif (ltZ c a) then ((z64 (-c)).bind fun g=>pd g fun h=>(app? f ([h]:LI)).bind fun i=>some (.inl (d,e,i))) else ((pN a a).bind fun j=>aw (u2 (cW.b2 a b)) (0,(ri a (false:Bool))))
def cW.b3 (f:Int) (g:LI) (c:LC) (d:L2) (b:LI):O16:=(bo ([g,b]:L2)).bind fun h=>(Aw c h).bind fun e=>((bif (!e.1) then (bif (eqZ (ln d) 4000) then some (.inr (.inr ([],6,[]))) else ((aw (u2 (cW.b1 b)) (0,[])).bind fun a=>cW.j1 c d b a)) else some (.inl (c,d,b))):Option ((LC×L2×LI)⊕((LC×L2×LI)⊕(L2×Int×LZ)))).bind fun a=>match a with | .inl a =>   u3 (cW.j2 f e) a | .inr i=>some i
def cW.j3 (a:LC) (b:Int) (c:LI) (d:Bool):O46:=bif d then some ([],1,[]) else ((aY a).bind fun e=>aw (u3 (cW.b3 b c)) (e,[],[]))
def cW (b:LC) (a:Int) (c:LI):O46:=((eU b a).bind fun d=>bif (!d) then some true else ((b9 c a).bind fun e=>some e)).bind fun f=>cW.j3 b a c f
def kM (b:LI) (a:Int):O8:=(bT b).bind fun c=>pu a fun d=>(slices_Delete_int a d c).bind fun e=>some e
def l6.b1 (f:LC) (g:Int) (h:LI) (a:Int) (b:LI) (d:L2) (e:List LZ):Option ((Int×LI×L2×List LZ)⊕(yJ×Int)):=bif (ltZ a (ln h)) then ((kM b a).bind fun i=>(gh f i).bind fun j=>(cZ j g []).bind fun c=>bif (!eqZ c.2.2 0) then some (.inr (([],[],[]),c.2.2)) else ((app? e ([c.1]:List LZ)).bind fun k=>pu a fun l=>some (.inl (l,b,d,k)))) else some (.inr ((b,d,e),0))
def l6 (c:LC) (d:Int) (a:LI):O45:=(gh c a).bind fun e=>(cW e d []).bind fun b=>bif (!eqZ b.2.1 26) then some (([],[],[]),b.2.1) else (aw (u4 (l6.b1 c d a)) (0,a,b.1,[]))
def gx.b1 (c:LC) (a:Int) (b:LI):O5:=bif (ltZ a (ln c)) then ((app? b ([a]:LI)).bind fun d=>pu a fun e=>some (.inl (e,d))) else some (.inr b)
def gx.b2 (e:LC) (f:Int) (a:Int) (b:LI):Option ((Int×LI)⊕(LI⊕(yJ×Int))):=bif (leZ 0 a) then ((mH b a).bind fun d=>(gh e d).bind fun g=>(cZ g f []).bind fun c=>bif (eqZ c.2.2 26) then (pd a fun h=>some (.inl (h,d))) else (bif (eqZ c.2.2 0) then (pd a fun i=>some (.inl (i,b))) else some (.inr (.inr (([],[],[]),c.2.2))))) else some (.inr (.inl b))
def gx.j1 (b:LC) (c:Int) (d:LI):O45:=(l6 b c d).bind fun a=>some (a.1,a.2)
def gx.j2 (a:LC) (c:Int) (d:LI):O45:=((z64 ((ln a)-1)).bind fun e=>aw (u2 (gx.b2 a c)) (e,d)).bind fun b=>match b with | .inl b =>   gx.j1 a c b | .inr f=>some f
def gx (a:LC) (b:Int):O45:=(eU a b).bind fun d=>bif (!d) then some (([],[],[]),1) else ((cZ a b []).bind fun c=>bif (eqZ c.2.2 0) then some (([],[],[]),4) else (bif (eqZ c.2.2 26) then ((aw (u2 (gx.b1 a)) (0,[])).bind fun e=>gx.j2 a b e) else some (([],[],[]),c.2.2)))
def br.j1 (f:Int) (a:Int) (b:LI) (g:Bool):O18:=bif g then (pd a fun c=>pd a fun e=>ix b e fun k=>ix b e fun d=>ix b a fun l=>ix b a fun h=>ix b a fun m=>ix b a fun n=>(idx (b.set a.toNat d) c).bind fun o=>(idx (b.set a.toNat d) c).bind fun p=>pd a fun i=>some (.inl (i,((b.set a.toNat d).set c.toNat h)))) else (Option.map Sum.inr (pu f fun j=>some (.inl (j,b))))
def br.b1 (d:Int) (e:Int) (a:Int) (b:LI):O18:=(bif (ltZ d a) then (ix b a fun j=>ix b a fun f=>pd a fun c=>ix b c fun k=>ix b c fun g=>(cmp_Less_int f g).bind fun h=>some h) else some false).bind fun i=>br.j1 e a b i
def br.b2 (c:Int) (d:Int) (a:Int) (b:LI):O5:=bif (ltZ a d) then (aw (u2 (br.b1 c a)) (a,b)) else some (.inr b)
def br (a:Int) (b:Int) (c:LI):O8:=pu a fun d=>aw (u2 (br.b2 a b)) (d,c)
def eC.b1 (c:LI) (a:Int) (b:Int) (d:Int) (e:Bool) (h:Bool):Option ((Int×Int×Int×Bool×Bool)⊕LI):=(z64 (b-a)).bind fun f=>bif (leZ f 12) then ((br a b c).bind fun g=>some (.inr g)) else (bif (eqZ d 0) then none else (bif (!e) then none else none))
def eC (a:Int) (b:Int) (c:Int) (d:LI):O8:=aw (u5 (eC.b1 d)) (a,b,c,true,true)
def jA (a:LI):O8:=(bits_Len (IntKind.u64.wrap (ln a))).bind fun b=>(eC 0 (ln a) b a).bind fun c=>some c
def slices_Compact_int (a:LI):O8:=GQ a
def gF.j1 (c:LC) (a:Int) (b:LI) (d:Int) (e:Bool):O5:=bif e then (ix c d fun f=>(app? b ([f.2.2.1]:LI)).bind fun g=>pu a fun h=>some (.inl (h,g))) else (pu a fun i=>some (.inl (i,b)))
def gF.b1 (b:LC) (e:LI) (c:Int) (d:LI):O5:=fE e c (fun a=>(bif (leZ 0 a) then (fE b a (fun f=>some (leZ 0 f.2.2.1)) <| some false) else some false).bind fun g=>gF.j1 b c d a g) <| some (.inr d)
def gF.j2 (a:LI):O8:=(jA a).bind fun b=>(slices_Compact_int b).bind fun c=>some c
def gF (a:LC) (b:LI):O8:=(aw (u2 (gF.b1 a b)) (0,[])).bind fun c=>gF.j2 c
def fG.b1 (b:LB) (c:LB) (a:Int):O4:=fE b a (fun d=>ix c a fun e=>bif (!decide (d=e)) then some (.inr false) else (nx a)) <| some (.inr true)
def fG (a:LB) (b:LB):O1:=bif (!eqZ (ln a) (ln b)) then some false else (aw (fG.b1 a b) 0)
def dT.j1 (a:Int) (b:Bool):O4:=bif b then some (.inr false) else (nx a)
def dT.b1 (b:LT) (c:LT) (a:Int):O4:=bif (ltZ a (ln b)) then ((ix b a fun f=>ix c a fun g=>bif (!decide (f.1=g.1)) then some true else (ix b a fun d=>ix c a fun e=>bif (!((eqZ d.2.1.1 e.2.1.1 && (eqZ d.2.1.2.1 e.2.1.2.1 && eqZ d.2.1.2.2 e.2.1.2.2)))) then some true else (ix b a fun h=>ix c a fun i=>(fG h.2.2 i.2.2).bind fun j=>some (!j)))).bind fun k=>dT.j1 a k) else some (.inr true)
def dT (a:LT) (b:LT):O1:=bif (!eqZ (ln a) (ln b)) then some false else (aw (dT.b1 a b) 0)
def pD (a:r9) (b:Bs):O1:=some (decide (a.1=b))
def cj.b1 (b:LT) (c:Bs) (a:Int):O2:=fE b a (fun d=>(pD d c).bind fun e=>bif e then some (.inr a) else (nx a)) <| some (.inr (-1))
def cj (a:LT) (b:Bs):O3:=aw (cj.b1 a b) 0
def sM (a:LT) (c:Bs):Option (r9×Bool):=(cj a c).bind fun b=>bif (ltZ b 0) then some ((eB,(0,0,0),[]),false) else (ix a b fun d=>some (d,true))
def cI.b1 (a:LB) (b:Int):O2:=fE a b (fun c=>none) <| some (.inr (-1))
def cI (a:LB) (b:Bs) (c:Int) (d:Int) (e:Int) (f:LB):O3:=aw (cI.b1 a) 0
def dY (a:LB) (b:Bs) (c:Int) (d:Int) (e:Int) (f:LB):O1:=(cI a b c d e f).bind fun g=>some (leZ 0 g)
def sa (b:pA) (d:LT):O1:=(sM d b.1).bind fun a=>bif (!a.2) then some (!eqZ b.2.2.1 0) else ((lY b.2.1 a.1.2.1).bind fun c=>bif (eqZ b.2.2.1 1) then some c else (bif (eqZ b.2.2.1 2) then some (!c) else ((dY b.2.2.2.2 a.1.1 a.1.2.1.1 a.1.2.1.2.1 a.1.2.1.2.2 a.1.2.2).bind fun e=>bif c then some (!e) else some false)))
def nL (a:pA) (c:LB) (b:LT):O1:=bif (decide (a.2.2.2.1=eB)) then ((sa a b).bind fun d=>some (!d)) else ((aZ c a.2.2.2.1).bind fun e=>bif e then ((sa a b).bind fun f=>some (!f)) else some false)
def ck.b1 (b:LN) (c:LB) (d:LT) (a:Int):O2:=fE b a (fun e=>(nL e c d).bind fun f=>bif f then some (.inr a) else (nx a)) <| some (.inr (-1))
def ck (a:LN) (b:LB) (c:LT):O3:=aw (ck.b1 a b c) 0
def dj (a:LN) (b:LB) (c:LT):O1:=(ck a b c).bind fun d=>some (leZ 0 d)
def nZ (a:LN) (b:LB) (c:LT):O1:=(dj a b c).bind fun d=>some (!d)
def iE.b1 (b:LB) (a:Int):O4:=bif (ltZ a (ln b)) then (pd a fun c=>ix b c fun d=>ix b a fun e=>bif (!Op.bytesLess d e) then some (.inr false) else (nx a)) else some (.inr true)
def iE (a:LB):O1:=aw (iE.b1 a) 1
def fF.b1 (a:Int) (b:r9) (c:LB) (d:Int):Option (Int⊕((Int×LB)⊕(LB⊕Bool))):=fE b.2.2 d (fun f=>none) <| (Option.map Sum.inr (pu a fun e=>some (.inl (e,c))))
def fF.j1 (a:Int) (b:r9) (c:LB) (d:Bool):O24:=bif d then some (.inr (.inr false)) else (aw (fF.b1 a b c) 0)
def fF.b2 (c:LF) (g:og) (h:jL) (d:LT) (e:Int) (f:LB):O24:=fE d e (fun a=>(app? f ([a.1]:LB)).bind fun i=>(iZ c a.1 a.2.1).bind fun b=>(bif (!b.2.2) then some true else ((iE a.2.2).bind fun j=>bif (!j) then some true else ((cN c g h b.1).bind fun k=>bif (ltZ 0 (ln k)) then some true else ((nZ b.1.2.2.2.1 a.2.2 d).bind fun l=>some (!l))))).bind fun m=>fF.j1 e a i m) <| some (.inr (.inl f))
def fF.j2 (a:LB):O1:=(iE a).bind fun b=>some b
def fF.j3 (b:LF) (c:og) (d:jL) (e:LT) (f:Bool):O1:=bif f then some false else ((aw (u2 (fF.b2 b c d e)) (0,[])).bind fun a=>match a with | .inl a =>    fF.j2 a | .inr g=>some g)
def fF (b:LF) (a:og) (d:jL) (c:LT):O1:=((ju b a).bind fun e=>bif (!e) then some true else ((nZ a.1 [] c).bind fun f=>some (!f))).bind fun g=>fF.j3 b a d c g
def oI (a:r9) (b:Bs) (d:Int) (e:Int) (f:Int) (c:Bs):O1:=bif (!decide (c=eB)) then (bif (decide (a.1=b)) then ((aZ a.2.2 c).bind fun g=>some g) else some false) else (bif (decide (a.1=b)) then some ((eqZ a.2.1.1 d && (eqZ a.2.1.2.1 e && eqZ a.2.1.2.2 f))) else some false)
def cm.b1 (b:LT) (c:Bs) (d:Int) (e:Int) (f:Int) (g:Bs) (a:Int):O2:=fE b a (fun h=>(oI h c d e f g).bind fun i=>bif i then some (.inr a) else (nx a)) <| some (.inr (-1))
def cm (a:LT) (b:Bs) (c:Int) (d:Int) (e:Int) (f:Bs):O3:=aw (cm.b1 a b c d e f) 0
def dk (a:LT) (b:Bs) (c:Int) (d:Int) (e:Int) (f:Bs):O1:=(cm a b c d e f).bind fun g=>some (leZ 0 g)
def nw.b1 (d:LP) (e:LT) (b:Int) (c:LZ):O42:=fE d b (fun a=>(dk e a.1 a.2.1.1 a.2.1.2.1 a.2.1.2.2 a.2.2).bind fun f=>(app? c ([f]:LZ)).bind fun g=>pu b fun h=>some (.inl (h,g))) <| some (.inr c)
def nw (a:LP) (b:LT):Option LZ:=aw (u2 (nw.b1 a b)) (0,[])
def lp (a:Int) (b:Int) (c:LZ):O1:=bif (ltZ 0 a) then (bif (leZ a b) then (pd a fun d=>ix c d fun e=>bif e then some true else (bif (ltZ a 0) then ((z64 (-b)).bind fun f=>bif (leZ f a) then ((z64 (-a)).bind fun g=>pd g fun h=>ix c h fun i=>some (!i)) else some false) else some false)) else (bif (ltZ a 0) then ((z64 (-b)).bind fun j=>bif (leZ j a) then ((z64 (-a)).bind fun k=>pd k fun l=>ix c l fun m=>some (!m)) else some false) else some false)) else (bif (ltZ a 0) then ((z64 (-b)).bind fun n=>bif (leZ n a) then ((z64 (-a)).bind fun o=>pd o fun p=>ix c p fun q=>some (!q)) else some false) else some false)
def dM.b1 (b:LI) (c:Int) (d:LZ) (a:Int):O2:=fE b a (fun e=>(lp e c d).bind fun f=>bif f then some (.inr a) else (nx a)) <| some (.inr (-1))
def dM (a:LI) (b:Int) (c:LZ):O3:=aw (dM.b1 a b c) 0
def fq (a:LI) (b:Int) (c:LZ):O1:=(dM a b c).bind fun d=>some (leZ 0 d)
def mI (a:wO) (b:Int) (c:LZ):O1:=(fq a.1 b c).bind fun d=>some (!d)
def bQ.b1 (b:LC) (c:Int) (d:LZ) (a:Int):O2:=fE b a (fun e=>(mI e c d).bind fun f=>bif f then some (.inr a) else (nx a)) <| some (.inr (-1))
def bQ (a:LC) (b:Int) (c:LZ):O3:=aw (bQ.b1 a b c) 0
def cO (a:LC) (b:Int) (c:LZ):O1:=(bQ a b c).bind fun d=>some (leZ 0 d)
def oJ (b:LC) (a:LZ):O1:=(cO b (min (ln a) 2000) a).bind fun c=>some (!c)
def jh.j1 (a:LZ) (b:Int) (c:Bool):O1:=bif c then ((z64 (-b)).bind fun d=>pd d fun e=>ix a e fun f=>some (!f)) else some false
def jh.j2 (b:LZ) (a:Int) (c:Bool):O1:=bif c then (pd a fun d=>ix b d fun e=>some e) else ((bif (ltZ a 0) then ((z64 (-(ln b))).bind fun f=>some (leZ f a)) else some false).bind fun g=>jh.j1 b a g)
def jh (b:LZ) (a:Int):O1:=(bif (ltZ 0 a) then some (leZ a (ln b)) else some false).bind fun c=>jh.j2 b a c
def dN (a:LC):Option LC:=pw a ( some []) ( (app? ([]:LC) a).bind fun b=>some b)
def dO.b1 (b:LI) (a:Int):O2:=fE b a (fun c=>(jw c).bind fun d=>bif d then some (.inr a) else (nx a)) <| some (.inr (-1))
def dO (a:LI):O3:=aw (dO.b1 a) 0
def ft (a:LI):O1:=(dO a).bind fun b=>some (leZ 0 b)
def eO.b1 (d:LI) (a:Int) (b:LI):O5:=fE d a (fun c=>(jw c).bind fun e=>bif e then ((z64 (-c)).bind fun f=>(app? b ([f]:LI)).bind fun g=>pu a fun h=>some (.inl (h,g))) else (pu a fun i=>some (.inl (i,b)))) <| some (.inr b)
def eO.j1 (a:L2×List (Int×LI)) (b:LI):O1:=(bM a b).bind fun c=>some (!c.1)
def eO (a:L2×List (Int×LI)) (b:LI):O1:=(aw (u2 (eO.b1 b)) (0,[])).bind fun c=>eO.j1 a c
def jj.b1 (f:L2) (a:Int) (b:L2) (c:List (Int×LI)):Option ((Int×L2×List (Int×LI))⊕Int):=fE f a (fun d=>(eO (b,c) d).bind fun g=>bif (!g) then some (.inr 19) else ((dE d b c).bind fun e=>pu a fun h=>some (.inl (h,e.1,e.2)))) <| some (.inr 0)
def jj.j1 (b:LC) (c:L2) (d:Bool):O3:=bif d then some 19 else ((iq b).bind fun a=>aw (u3 (jj.b1 c)) (0,a.1,a.2))
def jj (b:LC) (a:L2):O3:=bif (ltZ 4000 (ln a)) then some 6 else ((bif (eqZ (ln a) 0) then some true else ((z64 ((ln a)-1)).bind fun c=>ix a c fun d=>(ft d).bind fun e=>some e)).bind fun f=>jj.j1 b a f)
def gG.j1 (d:LZ) (e:L3) (a:Int) (b:LC) (c:Int) (f:Bool):Option ((Int×LC)⊕Int):=bif f then some (.inr 19) else (ix d a fun g=>bif g then ((app? b ([(([c]:LI),0,0,0)]:LC)).bind fun h=>pu a fun i=>some (.inl (i,h))) else ((dN b).bind fun j=>(app? j ([(([c]:LI),0,0,0)]:LC)).bind fun k=>ix e a fun l=>(jj k l).bind fun m=>bif (!eqZ m 0) then some (.inr 19) else ((z64 (-c)).bind fun n=>(app? b ([(([n]:LI),0,0,0)]:LC)).bind fun o=>pu a fun p=>some (.inl (p,o)))))
def gG.b1 (e:LI) (f:LZ) (b:LZ) (c:L3) (a:Int) (g:LC):Option ((Int×LC)⊕Int):=fE e a (fun d=>(ix b a fun h=>(jh f d).bind fun i=>bif (!(h == i)) then some true else (ix b a fun j=>bif j then (ix c a fun k=>some (ltZ 0 (ln k))) else some false)).bind fun l=>gG.j1 b c a g d l) <| some (.inr 0)
def gG.j2 (a:LC) (b:LI) (c:LZ) (d:LZ) (e:L3) (f:Bool):O3:=bif f then some 19 else ((aY a).bind fun g=>aw (u2 (gG.b1 b c d e)) (0,g))
def gG (b:LC) (d:Int) (a:LI) (c:LZ) (e:LZ) (f:L3):O3:=(jc b d a).bind fun g=>bif (!g) then some 1 else ((bif (!eqZ (ln c) d) then some true else ((oJ b c).bind fun h=>bif (!h) then some true else (bif (!eqZ (ln e) (ln a)) then some true else some (!eqZ (ln f) (ln a))))).bind fun i=>gG.j2 b a c e f i)
def jx.b1 (d:LZ) (e:LI) (a:Int) (b:LZ):O42:=fE e a (fun c=>bif (ltZ 0 c) then (pd c fun f=>ix d f fun g=>bif g then ((app? b ([true]:LZ)).bind fun h=>pu a fun i=>some (.inl (i,h))) else (bif (ltZ c 0) then ((z64 (-c)).bind fun j=>pd j fun k=>ix d k fun l=>(app? b ([(!l)]:LZ)).bind fun m=>pu a fun n=>some (.inl (n,m))) else ((app? b ([false]:LZ)).bind fun o=>pu a fun p=>some (.inl (p,o))))) else (bif (ltZ c 0) then ((z64 (-c)).bind fun q=>pd q fun r=>ix d r fun s=>(app? b ([(!s)]:LZ)).bind fun t=>pu a fun u=>some (.inl (u,t))) else ((app? b ([false]:LZ)).bind fun v=>pu a fun w=>some (.inl (w,v))))) <| some (.inr b)
def jx.j1 (a:L3) (b:LC×Int) (c:LP) (d:LZ) (e:LI) (f:LZ):O3:=(gG b.1 (ln c) e d f a).bind fun g=>bif (!eqZ g 0) then some 19 else some 0
def jx.j2 (h:LF) (a:jL) (b:jL) (i:L3) (j:Bool):O3:=bif j then some 1 else ((cut h 0 a.2.1).bind fun c=>(a8 c a.1 b).bind fun d=>bif (!eqZ d.2 0) then some d.2 else ((fF c a.1 b a.2.2).bind fun k=>bif (!k) then some 19 else ((e9 c a.1).bind fun e=>(nw e a.2.2).bind fun f=>(cQ e b).bind fun g=>(aw (u2 (jx.b1 f g)) (0,[])).bind fun l=>jx.j1 i d e f g l)))
def jx (b:LF) (a:jL) (c:jL) (d:L3):O3:=((fA a).bind fun e=>bif (!e) then some true else some (ltZ (ln b) a.2.1)).bind fun f=>jx.j2 b a c d f
def eZ.j1 (b:jL×L3×Int) (c:LF) (a:LI) (d:Bool):O1:=bif d then ((jx c b.1 (([],eB,0,[],false),0,[]) b.2.1).bind fun e=>bif (eqZ e 0) then (bif (eqZ (ln a) 2) then (ix a 0 fun f=>bif (eqZ f 2) then ((z64 ((ln a)-1)).bind fun g=>(idx a (min (1:Int) g)).bind fun h=>some (eqZ h 3)) else some false) else some false) else some false) else some false
def eZ:O1:=(fi ([98,97,115,101]:Bs) 1 []).bind fun e=>(fi ([98,97,115,101]:Bs) 2 []).bind fun f=>(hU ([98,97,115,101]:Bs) 1 2).bind fun j=>(fi ([103,101,111]:Bs) 1 j).bind fun g=>(hU ([103,101,111]:Bs) 0 9).bind fun c=>(jP ([(IF e),(IF f),(IF g)]:LF) (c,eB,0,([([109,105,116]:Bs)]:LB),false) (([],eB,0,[],false),0,[])).bind fun a=>(app? ([]:LF) ([(IF e),(IF f),(IF g)]:LF)).bind fun k=>(app? k ([(1,([98,97,115,101]:Bs),(1,0,0),(eB,(0,0,0),eB,[],[],[],eB),(0,eB,[],eB,0,0,eB,eB,[],[]),[],0,0,0,0)]:LF)).bind fun b=>(mG b a.1).bind fun h=>(jP b (c,eB,0,([([109,105,116]:Bs)]:LB),false) (([],eB,0,[],false),0,[])).bind fun l=>(a8 b (c,eB,0,([([109,105,116]:Bs)]:LB),false) (([],eB,0,[],false),0,[])).bind fun d=>(gx d.1 3).bind fun i=>(gF d.1 i.1.1).bind fun m=>(bif (eqZ a.2.2 0) then (bif (eqZ h.2.2 0) then (bif (eqZ l.2.2 26) then (bif (eqZ d.2 0) then (bif (eqZ i.2 0) then (bif (eqZ (ln a.1.2.2) 2) then ((dT a.1.2.2 h.1.2.2).bind fun n=>some n) else some false) else some false) else some false) else some false) else some false) else some false).bind fun o=>eZ.j1 a b m o
def au.j1 (Gr:Gr5) (d:Lf) (e:Int) (f:Int) (a:Int) (b:Int) (g:Bool):O13:=bif g then ((idx d b).bind fun c=>(z64 (e-a)).bind fun h=>(z64 (f-1)).bind fun i=>(Gr c.2.1 (c.2.2.map (Uun 0)) h i).bind fun j=>(z64 (a+j)).bind fun k=>(z64 (b+1)).bind fun l=>some (.inl (k,l))) else some (.inr a)
def au.b1 (Gr:Gr5) (a:Lf) (b:Int) (e:Int) (c:Int) (d:Int):O13:=(bif (ltZ d (a.length:Int)) then some (leZ c b) else some false).bind fun f=>au.j1 Gr a b e c d f
def au.body (Gr:Gr5) (f:Int) (d:Lf) (a:Int) (b:Int):O3:=bif (ltZ b 1) then ((z64 (a+1)).bind fun e=>some e) else (aw (fun c=>au.b1 Gr d a b c.1 c.2) (1,0))
def au.rec:Nat->Int->Lf->Int->Int->Option Int
 | 0=>fun _ _ _ _=>none
 | n+1=>au.body (au.rec n)
def au (a:Int) (b:Lf) (c:Int) (d:Int):O3:=au.rec Fuel.n a b c d
def fC (a:Int) (b:Lf):O1:=(au a b 40 6).bind fun c=>some (leZ c 40)
def bE.j1 (a:Int) (b:Bool):O4:=bif b then some (.inr false) else ((z64 (a+1)).bind fun c=>some (.inl c))
def bE.j2 (a:LV) (b:Int) (e:Bool):O4:=bif e then (((idx a b).bind fun f=>bif (ltZ 40 (f.1.length:Int)) then some true else ((idx a b).bind fun g=>bif (ltZ 10 (g.2.1.length:Int)) then some true else ((idx a b).bind fun c=>(fC c.2.2.1.1 (c.2.2.1.2.map (Uun 0))).bind fun h=>bif (!h) then some true else ((idx a b).bind fun d=>(fC d.2.2.2.1 (d.2.2.2.2.map (Uun 0))).bind fun i=>some (!i))))).bind fun j=>bE.j1 b j) else some (.inr (leZ (a.length:Int) 4))
def bE.b1 (b:LV) (a:Int):O4:=(bif (ltZ a (b.length:Int)) then some (ltZ a 5) else some false).bind fun c=>bE.j2 b a c
def bE (a:LV):O1:=aw (fun b=>bE.b1 a b) 0
def iS (a:bZ):O1:=(bE a.1).bind fun b=>bif b then ((bE a.2.1).bind fun c=>bif c then some (leZ (a.2.2.length:Int) 8) else some false) else some false
def cw.j1 (a:LY) (b:Int) (c:Bool):O4:=bif c then ((idx a b).bind fun d=>bif (ltZ 10 (d.1.length:Int)) then some (.inr false) else ((z64 (b+1)).bind fun e=>some (.inl e))) else some (.inr (leZ (a.length:Int) 10))
def cw.b1 (b:LY) (a:Int):O4:=(bif (ltZ a (b.length:Int)) then some (ltZ a 11) else some false).bind fun c=>cw.j1 b a c
def cw (a:LY):O1:=aw (fun b=>cw.b1 a b) 0
def mJ (a:Bs) (c:LI) (d:Int) (e:Lf) (f:Int) (g:Lf) (b:Bs) (h:LI) (i:Int) (j:Lf) (k:Int) (l:Lf):O1:=some (decide (a=b))
def al.b1 (d:LV) (e:LV) (c:Int):O4:=bif (ltZ c (d.length:Int)) then ((idx d c).bind fun a=>(idx e c).bind fun b=>(mJ a.1 a.2.1 a.2.2.1.1 (a.2.2.1.2.map (Uun 0)) a.2.2.2.1 (a.2.2.2.2.map (Uun 0)) b.1 b.2.1 b.2.2.1.1 (b.2.2.1.2.map (Uun 0)) b.2.2.2.1 (b.2.2.2.2.map (Uun 0))).bind fun f=>bif (!f) then some (.inr false) else ((z64 (c+1)).bind fun g=>some (.inl g))) else some (.inr true)
def al (a:LV) (b:LV):O1:=bif (!eqZ (a.length:Int) (b.length:Int)) then some false else (aw (fun c=>al.b1 a b c) 0)
def mL (a:Int) (b:LV) (c:LV) (d:LI):O1:=bif (ltZ a 0) then some true else some (leZ (b.length:Int) a)
def ca.b1 (b:LI) (c:LV) (d:LV) (e:LI) (a:Int):O2:=bif (ltZ a (b.length:Int)) then ((idx b a).bind fun f=>(mL f c d e).bind fun g=>bif g then some (.inr a) else ((z64 (a+1)).bind fun h=>some (.inl h))) else some (.inr (-1))
def ca (a:LI) (b:LV) (c:LV) (d:LI):O3:=aw (fun e=>ca.b1 a b c d e) 0
def dc (a:LI) (b:LV) (c:LV) (d:LI):O1:=(ca a b c d).bind fun e=>some (leZ 0 e)
def lK (a:Bs) (c:LI) (d:Int) (e:Lf) (f:Int) (g:Lf) (b:Bs) (h:LI) (i:Int) (j:Lf) (k:Int) (l:Lf):O1:=some (decide (a=b))
def aU.b1 (c:LV) (d:Bs) (e:LI) (f:Int) (g:Lf) (h:Int) (i:Lf) (b:Int):O2:=bif (ltZ b (c.length:Int)) then ((idx c b).bind fun a=>(lK a.1 a.2.1 a.2.2.1.1 (a.2.2.1.2.map (Uun 0)) a.2.2.2.1 (a.2.2.2.2.map (Uun 0)) d e f g h i).bind fun j=>bif j then some (.inr b) else ((z64 (b+1)).bind fun k=>some (.inl k))) else some (.inr (-1))
def aU (a:LV) (b:Bs) (c:LI) (d:Int) (e:Lf) (f:Int) (g:Lf):O3:=aw (fun h=>aU.b1 a b c d e f g h) 0
def bL (a:LV) (b:Bs) (c:LI) (d:Int) (e:Lf) (f:Int) (g:Lf):O1:=(aU a b c d e f g).bind fun h=>some (leZ 0 h)
def gL (a:Int) (b:Lf):O1:=(fk a b).bind fun c=>some c
def cK.j1 (a:Int) (b:Bool):O36:=bif b then some (.inr (.inr false)) else ((z64 (a+1)).bind fun c=>some (.inl c))
def cK.b1 (d:LV) (e:Int) (b:gK) (a:Int):O36:=bif (ltZ a (b.2.1.length:Int)) then ((idx b.2.1 a).bind fun c=>(bif (ltZ c 0) then some true else (bif (leZ (d.length:Int) c) then some true else (bif (ltZ 0 a) then ((z64 (a-1)).bind fun f=>(idx b.2.1 f).bind fun g=>some (leZ c g)) else some false))).bind fun h=>cK.j1 a h) else (Option.map Sum.inr ((z64 (e+1)).bind fun i=>some (.inl i)))
def cK.j2 (a:LV) (b:Int) (c:gK) (d:Bool):O4:=bif d then some (.inr false) else (aw (fun e=>cK.b1 a b c e) 0)
def cK.b2 (b:LV) (c:Int):O4:=bif (ltZ c (b.length:Int)) then ((idx b c).bind fun a=>((dA a.1).bind fun d=>bif (!d) then some true else ((cut b 0 c).bind fun e=>(bL e a.1 a.2.1 a.2.2.1.1 (a.2.2.1.2.map (Uun 0)) a.2.2.2.1 (a.2.2.2.2.map (Uun 0))).bind fun f=>bif f then some true else ((gL a.2.2.1.1 (a.2.2.1.2.map (Uun 0))).bind fun g=>bif (!g) then some true else ((gL a.2.2.2.1 (a.2.2.2.2.map (Uun 0))).bind fun h=>some (!h))))).bind fun i=>cK.j2 b c a i) else some (.inr (leZ (b.length:Int) 8))
def cK (a:LV):O1:=aw (fun b=>cK.b2 a b) 0
def kW (a:bZ):O1:=(al a.1 a.2.1).bind fun b=>(dc a.2.2 a.1 a.2.1 a.2.2).bind fun c=>bif b then (bif (!c) then (bif (leZ (a.2.2.length:Int) 400) then ((cK a.1).bind fun d=>bif d then ((cK a.2.1).bind fun e=>some e) else some false) else some false) else some false) else some false
def bg.j1 (a:Int) (b:List (Int×Bool)) (c:Int) (d:Bool):O19:=bif d then some (.inr (.inr false)) else ((z64 (a+1)).bind fun e=>some (.inl (e,(fa b c true))))
def bg.b1 (e:bZ) (f:Int) (c:gO) (a:Int) (d:List (Int×Bool)):O19:=bif (ltZ a (c.1.length:Int)) then ((idx c.1 a).bind fun b=>(bif (ltZ b 0) then some true else (bif (leZ (e.2.2.length:Int) b) then some true else (bif ((bG d b).getD false) then some true else (bif (ltZ 0 a) then ((z64 (a-1)).bind fun g=>(idx c.1 g).bind fun h=>some (leZ b h)) else some false)))).bind fun i=>bg.j1 a d b i) else (Option.map Sum.inr ((z64 (f+1)).bind fun j=>some (.inl (j,d))))
def bg.j2 (b:bZ) (c:Int) (d:List (Int×Bool)) (e:gO) (f:Bool):O51:=bif f then some (.inr false) else (aw (fun a=>bg.b1 b c e a.1 a.2) (0,d))
def bg.b2 (d:bZ) (c:LY) (b:Int) (e:List (Int×Bool)):O51:=bif (ltZ b (c.length:Int)) then ((idx c b).bind fun a=>(bif (eqZ (a.1.length:Int) 0) then some true else (bif (ltZ a.2 0) then some true else some (ltZ 1073741824 a.2))).bind fun f=>bg.j2 d b e a f) else some (.inr true)
def bg (b:bZ) (c:LY):O1:=aw (fun a=>bg.b2 b c a.1 a.2) (0,([]:List (Int×Bool)))
def bh.b1 (Gr:Int->Lf->Option ed) (d:Lf) (b:Int) (e:Int) (f:Int) (g:LB) (h:List ed):Option ((Int×Int×Int×LB×List ed)⊕(ed)):=bif (ltZ b (d.length:Int)) then ((idx d b).bind fun c=>(app? g ([c.1]:LB)).bind fun i=>(Gr c.2.1 (c.2.2.map (Uun 0))).bind fun a=>(app? h ([(a.1,a.2.1,a.2.2.1,((a.2.2.2.map (Uun 3)).map (Umk 3)))]:List ed)).bind fun j=>(z64 (b+1)).bind fun k=>some (.inl (k,e,f,i,j))) else some (.inr (e,f,g,(h.map (Umk 3))))
def bh.body (Gr:Int->Lf->Option ed) (b:Int) (c:Lf):Option ed:=(gL b c).bind fun d=>bif (!d) then some (0,0,[],[]) else (aw (fun a=>bh.b1 Gr c a.1 a.2.1 a.2.2.1 a.2.2.2.1 a.2.2.2.2) (0,b,0,[],[]))
def bh.rec:Nat->Int->Lf->Option ed
 | 0=>fun _ _=>none
 | n+1=>bh.body (bh.rec n)
def bh (a:Int) (b:Lf):Option ed:=bh.rec Fuel.n a b
def strconv_Itoa (a:Int):O53:=GW a
def mM (a:Int):O53:=(strconv_Itoa a).bind fun b=>(cat? b ([59]:Bs)).bind fun c=>some c
def mN (a:Int):O53:=bif (ltZ a 0) then some ([]:Bs) else ((mM a).bind fun b=>some b)
def iN  : Option (Unit):=some ()
def eV (a:Bs):O48:=(iN).bind fun c=>(app? [] (eQ a)).bind fun b=>some ((a.length:Int),b)
def ny (a:Bs):O53:=(strconv_Itoa (a.length:Int)).bind fun b=>(cat? b ([58]:Bs)).bind fun c=>(cat? c a).bind fun d=>(cat? d ([44]:Bs)).bind fun e=>some e
def gY (a:LI):O8:=some a
def ef (a:Bs) (b:LI):O48:=(gY b).bind fun c=>(app? c (eQ a)).bind fun d=>some ((a.length:Int),d)
def ij (a:LI):Option (Bs):=(yH a)
def aO.b1 (Gr:Gr4) (d:Lf) (f:LB) (g:List ed) (c:Int) (e:LI):O5:=bif (ltZ c (d.length:Int)) then ((idx d c).bind fun a=>(bA f a.1).bind fun h=>(ny a.1).bind fun i=>(idx g h).bind fun b=>(Gr a.2.1 (a.2.2.map (Uun 0)) b.1 b.2.1 b.2.2.1 (b.2.2.2.map (Uun 3))).bind fun j=>(ny j).bind fun k=>(cat? i k).bind fun l=>(ef l e).bind fun m=>(z64 (c+1)).bind fun n=>some (.inl (n,m.2))) else some (.inr e)
def aO.j1 (a:LI):O53:=(ij a).bind fun b=>some b
def aO.body (Gr:Gr4) (b:Int) (e:Lf) (m:Int) (d:Int) (f:LB) (g:List ed):O53:=(mN b).bind fun c=>bif (eqZ b 0) then ((mM d).bind fun h=>(cat? c h).bind fun i=>some i) else (bif (eqZ b 1) then ((mN d).bind fun j=>(cat? c j).bind fun k=>some k) else ((eV c).bind fun l=>(aw (fun a=>aO.b1 Gr e f g a.1 a.2) (0,l.2)).bind fun a=>aO.j1 a))
def aO.rec:Nat->Int->Lf->Int->Int->LB->List ed->Option Bs
 | 0=>fun _ _ _ _ _ _=>none
 | n+1=>aO.body (aO.rec n)
def aO (a:Int) (b:Lf) (c:Int) (d:Int) (e:LB) (f:List ed):O53:=aO.rec Fuel.n a b c d e f
def oO (a:Bs):O25:=some (a,false)
def strings_IndexByte (a:Bs) (b:Int):O3:=qU a b
def fu (a:Bs) (b:Bool):O25:=some (eB,true)
def strconv_Atoi (a:Bs):O3:=Au a
def bK.j1 (a:Bs) (b:Bool) (d:Int) (e:Int) (f:Bool):O43:=bif f then ((fu a b).bind fun c=>some (0,c.1,c.2)) else ((z64 (d+1)).bind fun g=>(cut a g (a.length:Int)).bind fun h=>some (e,h,b))
def bK (g:Int) (h:Int) (a:Bs) (e:Bool):O43:=(cut a 0 (min (a.length:Int) 21)).bind fun c=>(strings_IndexByte c g).bind fun b=>bif (ltZ b 0) then ((fu a e).bind fun f=>some (0,f.1,f.2)) else ((cut c 0 b).bind fun i=>(strconv_Atoi i).bind fun d=>((strconv_Itoa d).bind fun j=>(cut c 0 b).bind fun k=>bif (!decide (j=k)) then some true else some (ltZ d h)).bind fun l=>bK.j1 a e b d l)
def fK (b:Bs) (c:Bool):O43:=(bK 59 0 b c).bind fun a=>some (a.1,a.2.1,a.2.2)
def eL (a:Bs) (b:Bool):O3:=some (a.length:Int)
def dw (a:Bs) (b:Bool):O1:=bif (!b) then some (decide (a=([]:Bs))) else some false
def fX (a:Bs) (b:Bool):O1:=(eL a b).bind fun c=>bif (eqZ c 0) then ((dw a b).bind fun d=>some (!d)) else some false
def iU (b:Bs) (c:Bool):O43:=(bK 59 (-9223372036854775808) b c).bind fun a=>some (a.1,a.2.1,a.2.2)
def eh (a:Bs) (b:Bs):O25:=(cC a b).bind fun c=>bif (!c) then some (a,false) else ((cut a (b.length:Int) (a.length:Int)).bind fun d=>some (d,true))
def strings_CutPrefix (b:Bs) (c:Bs):O25:=(eh b c).bind fun a=>some (a.1,a.2)
def gi (d:Bs) (e:Bs) (b:Bool):O25:=(strings_CutPrefix e d).bind fun a=>bif (!a.2) then ((fu a.1 b).bind fun c=>some (c.1,c.2)) else some (a.1,b)
def eM (d:Bs) (e:Bool):Option (Bs×Bs×Bool):=(bK 58 0 d e).bind fun a=>bif (ltZ (a.2.1.length:Int) a.1) then ((fu a.2.1 a.2.2).bind fun c=>some (([]:Bs),c.1,c.2)) else ((cut a.2.1 0 a.1).bind fun f=>(cut a.2.1 a.1 (a.2.1.length:Int)).bind fun g=>(gi ([44]:Bs) g a.2.2).bind fun b=>bif b.2 then some (([]:Bs),b.1,b.2) else some (f,b.1,b.2))
def df.j1 (c:List (Bs×Bs)) (b:Bs×Bs×Bool) (a:Bs×Bs×Bool) (d:Bool):O10:=bif d then (Option.map Sum.inr (Option.map Sum.inr (none))) else some (.inl (b.1,a.2.1,a.2.2,(fa c b.1 a.1)))
def df.b1 (f:Bs) (c:Bs) (d:Bool) (b:List (Bs×Bs)):O10:=(eL c d).bind fun g=>bif (ltZ 0 g) then ((eM c d).bind fun a=>(eM a.2.1 a.2.2).bind fun e=>((fX e.2.1 e.2.2).bind fun h=>bif h then some true else ((p6 (b.length<=9223372036854775807)).bind fun j=>bif (ltZ 0 (b.length:Int)) then some (Op.bytesLess a.1 f || decide (a.1=f)) else some false)).bind fun i=>df.j1 b a e i) else some (.inr (.inl (c,d,b)))
def df.j2 (a:Bs) (b:Bool) (c:List (Bs×Bs)):O49:=(dw a b).bind fun d=>some (d,a,b,c)
def df (b:Bs) (c:Bool):O49:=(aw (fun a=>df.b1 a.1 a.2.1 a.2.2.1 a.2.2.2) (([]:Bs),b,c,([]:List (Bs×Bs)))).bind fun a=>match a with | .inl a=>df.j2 a.1 a.2.1 a.2.2 | .inr d=>some d
def eu.j1 (c:List (Bs×Bs)) (b:Bs×Bs×Bool) (a:Bs×Bs×Bool) (d:Bool):O14:=bif d then some (.inr (.inr (a.2.1,a.2.2))) else some (.inl (b.1,a.2.1,a.2.2,(fa c b.1 a.1)))
def eu.b1 (f:Bs) (c:Bs) (d:Bool) (b:List (Bs×Bs)):O14:=(eL c d).bind fun g=>bif (ltZ 0 g) then ((eM c d).bind fun a=>(eM a.2.1 a.2.2).bind fun e=>((fX e.2.1 e.2.2).bind fun h=>bif h then some true else ((p6 (b.length<=9223372036854775807)).bind fun j=>bif (ltZ 0 (ln b)) then some (Op.bytesLess a.1 f || decide (a.1=f)) else some false)).bind fun i=>eu.j1 b a e i) else some (.inr (.inl (c,d,b)))
def eu.j2 (a:Bs) (b:Bool) (c:List (Bs×Bs)):O25:=(dw a b).bind fun d=>none
def eu (b:Bs) (c:Bool):O25:=(aw (u4 eu.b1) (eB,b,c,([]:List (Bs×Bs)))).bind fun a=>match a with | .inl a =>   u3 eu.j2 a | .inr d=>some d
def aC.j1 (c:Int) (d:Bs) (e:Bool) (b:Int) (a:Int):O47:=(dw d e).bind fun f=>bif f then (bif (eqZ c 0) then some ((b,a,[],[]),true) else some ((b,a,[],[]),(leZ a 1))) else some ((b,a,[],[]),false)
def aC.j2 (f:Int) (b:Int) (c:Int) (d:LB) (e:List ed) (g:iM) (a:ed×Bool) (h:Bool):O26:=bif h then some (.inr ((b,c,d,(e.map (Umk 3))),false)) else ((app? d ([g.1]:LB)).bind fun i=>(app? e ([(a.1.1,a.1.2.1,a.1.2.2.1,((a.1.2.2.2.map (Uun 3)).map (Umk 3)))]:List ed)).bind fun j=>(z64 (f+1)).bind fun k=>some (.inl (k,b,c,i,j)))
def aC.b1 (Gr:Gr3) (c:Lf) (d:Bool×Bs×Bool×List (Bs×Bs)) (b:Int) (e:Int) (f:Int) (g:LB) (h:List ed):O26:=bif (ltZ b (c.length:Int)) then ((idx c b).bind fun a=>(Gr a.2.1 (a.2.2.map (Uun 0)) ((bG d.2.2.2 a.1).getD ([]:Bs))).bind fun i=>(bif (!(bG d.2.2.2 a.1).isSome) then some true else some (!i.2)).bind fun j=>aC.j2 b e f g h a i j) else some (.inr ((e,f,g,(h.map (Umk 3))),true))
def aC.j3 (Gr:Gr3) (b:Int) (g:Lf) (c:Int×Bs×Bool) (h:Bool):O47:=bif h then some ((b,0,[],[]),false) else (bif (!eqZ b 2) then ((bif (eqZ b 0) then ((iU c.2.1 c.2.2).bind fun d=>some (d.2.1,d.2.2,b,d.1)) else ((fK c.2.1 c.2.2).bind fun e=>some (e.2.1,e.2.2,b,e.1))).bind fun a=>aC.j1 b a.1 a.2.1 a.2.2.1 a.2.2.2) else (orT ( (df c.2.1 c.2.2).bind fun f=>bif (!f.1) then some ((b,0,[],[]),false) else (aw (fun a=>aC.b1 Gr g f a.1 a.2.1 a.2.2.1 a.2.2.2.1 a.2.2.2.2) (0,b,0,[],[]))) ( (eu c.2.1 c.2.2).bind fun i=>some ((b,0,[],[]),false))))
def aC.body (Gr:Gr3) (b:Int) (d:Lf) (e:Bs):O47:=(oO e).bind fun c=>(fK c.1 c.2).bind fun a=>((fX a.2.1 a.2.2).bind fun f=>bif f then some true else some (!eqZ a.1 b)).bind fun g=>aC.j3 Gr b d a g
def aC.rec:Nat->Int->Lf->Bs->Option (ed×Bool)
 | 0=>fun _ _ _=>none
 | n+1=>aC.body (aC.rec n)
def aC (a:Int) (b:Lf) (c:Bs):O47:=aC.rec Fuel.n a b c
def gH.j1 (b:Int) (c:Lf) (d:Int) (e:Lf) (f:Bool):O1:=bif f then some false else ((bh b c).bind fun a=>(aO b c a.1 a.2.1 a.2.2.1 (a.2.2.2.map (Uun 3))).bind fun g=>(aC d e g).bind fun h=>some h.2)
def gH (a:Int) (b:Lf) (c:Int) (d:Lf):O1:=((gL a b).bind fun e=>bif (!e) then some true else ((gL c d).bind fun f=>some (!f))).bind fun g=>gH.j1 a b c d g
def cD.b1 (c:Int) (a:Int) (f:gK) (e:Int) (g:LV) (b:Int) (d:LZ):Option ((Int×LZ)⊕((Int×LZ)⊕((Int×LZ)⊕((Int×LZ)⊕LZ)))):=bif (ltZ b (g.length:Int)) then ((idx g b).bind fun h=>(b7 f.2.1 b).bind fun i=>bif (!i) then ((fL 0 a 8).bind fun n=>(idx d (0+a * 32)).bind fun o=>(fL (0+a * 32) c 2).bind fun p=>(idx d ((0+a * 32)+c * 16)).bind fun q=>(fL ((0+a * 32)+c * 16) b 8).bind fun r=>(idx d (((0+a * 32)+c * 16)+b * 2)).bind fun s=>(fL (((0+a * 32)+c * 16)+b * 2) e 2).bind fun t=>(idx d ((((0+a * 32)+c * 16)+b * 2)+e * 1)).bind fun u=>(idx d ((((0+a * 32)+c * 16)+b * 2)+e * 1)).bind fun v=>(z64 (b+1)).bind fun j=>some (.inl (j,(d.set ((((0+a * 32)+c * 16)+b * 2)+e * 1).toNat true)))) else ((gH f.2.2.1.1 (f.2.2.1.2.map (Uun 0)) h.2.2.2.1 (h.2.2.2.2.map (Uun 0))).bind fun k=>(fL 0 a 8).bind fun w=>(idx d (0+a * 32)).bind fun x=>(fL (0+a * 32) c 2).bind fun y=>(idx d ((0+a * 32)+c * 16)).bind fun z=>(fL ((0+a * 32)+c * 16) b 8).bind fun A=>(idx d (((0+a * 32)+c * 16)+b * 2)).bind fun B=>(fL (((0+a * 32)+c * 16)+b * 2) e 2).bind fun C=>(idx d ((((0+a * 32)+c * 16)+b * 2)+e * 1)).bind fun D=>(idx d ((((0+a * 32)+c * 16)+b * 2)+e * 1)).bind fun E=>(z64 (b+1)).bind fun l=>some (.inl (l,(d.set ((((0+a * 32)+c * 16)+b * 2)+e * 1).toNat k))))) else (Option.map Sum.inr ((z64 (e+1)).bind fun m=>some (.inl (m,d))))
def cD.b2 (b:bZ) (f:Int) (c:Int) (g:gK) (a:Int) (d:LZ):Option ((Int×LZ)⊕((Int×LZ)⊕((Int×LZ)⊕LZ))):=bif (ltZ a 2) then ((idx ([b.1,b.2.1]:List LV) a).bind fun h=>aw (fun e=>cD.b1 f c g a h e.1 e.2) (0,d)) else (Option.map Sum.inr ((z64 (c+1)).bind fun i=>some (.inl (i,d))))
def cD.b3 (f:bZ) (b:Int) (c:LV) (a:Int) (d:LZ):Option ((Int×LZ)⊕((Int×LZ)⊕LZ)):=bif (ltZ a (c.length:Int)) then ((idx c a).bind fun g=>aw (fun e=>cD.b2 f b a g e.1 e.2) (0,d)) else (Option.map Sum.inr ((z64 (b+1)).bind fun h=>some (.inl (h,d))))
def cD.b4 (a:bZ) (b:Int) (c:LZ):O42:=bif (ltZ b 2) then ((idx ([a.1,a.2.1]:List LV) b).bind fun e=>aw (fun d=>cD.b3 a b e d.1 d.2) (0,c)) else some (.inr c)
def cD (b:bZ):Option LZ:=aw (fun a=>cD.b4 b a.1 a.2) (0,(List.replicate 256 false))
def mO (a:LZ) (b:Int):O1:=bif (ltZ b (a.length:Int)) then ((idx a b).bind fun c=>some c) else some false
def jk (a:LZ) (b:Int):O3:=(mO a b).bind fun c=>bif c then some 1 else some 0
def az.b1 (e:bZ) (f:LZ) (c:Int) (b:LZ):O42:=bif (ltZ c (e.2.2.length:Int)) then ((idx e.2.2 c).bind fun a=>(jk f c).bind fun d=>(fL 0 a 8).bind fun h=>(idx b (0+a * 2)).bind fun i=>(fL (0+a * 2) d 2).bind fun j=>(idx b ((0+a * 2)+d * 1)).bind fun k=>(idx b ((0+a * 2)+d * 1)).bind fun l=>(z64 (c+1)).bind fun g=>some (.inl (g,(b.set ((0+a * 2)+d * 1).toNat true)))) else some (.inr b)
def az.b2 (g:bZ) (d:LZ) (e:LZ) (b:Int) (c:Int) (f:Bool) (a:Int):Option ((Bool×Int)⊕Bool):=bif (ltZ a (g.1.length:Int)) then (bif f then ((z64 (a+1)).bind fun h=>some (.inl (true,h))) else ((fL 0 a 8).bind fun t=>(idx e (0+a * 2)).bind fun u=>(fL (0+a * 2) 0 2).bind fun v=>(idx e ((0+a * 2)+0 * 1)).bind fun w=>(idx e ((0+a * 2)+0 * 1)).bind fun i=>bif i then ((fL ((0+b * 32)+c * 16) a 8).bind fun x=>(idx d (((0+b * 32)+c * 16)+a * 2)).bind fun y=>(fL (((0+b * 32)+c * 16)+a * 2) 0 2).bind fun z=>(idx d ((((0+b * 32)+c * 16)+a * 2)+0 * 1)).bind fun A=>(idx d ((((0+b * 32)+c * 16)+a * 2)+0 * 1)).bind fun j=>bif (!j) then ((z64 (a+1)).bind fun k=>some (.inl (true,k))) else ((fL 0 a 8).bind fun B=>(idx e (0+a * 2)).bind fun C=>(fL (0+a * 2) 1 2).bind fun D=>(idx e ((0+a * 2)+1 * 1)).bind fun E=>(idx e ((0+a * 2)+1 * 1)).bind fun l=>bif l then ((fL ((0+b * 32)+c * 16) a 8).bind fun F=>(idx d (((0+b * 32)+c * 16)+a * 2)).bind fun G=>(fL (((0+b * 32)+c * 16)+a * 2) 1 2).bind fun H=>(idx d ((((0+b * 32)+c * 16)+a * 2)+1 * 1)).bind fun I=>(idx d ((((0+b * 32)+c * 16)+a * 2)+1 * 1)).bind fun m=>(z64 (a+1)).bind fun n=>some (.inl ((!m),n))) else ((z64 (a+1)).bind fun o=>some (.inl (false,o))))) else ((fL 0 a 8).bind fun J=>(idx e (0+a * 2)).bind fun K=>(fL (0+a * 2) 1 2).bind fun L=>(idx e ((0+a * 2)+1 * 1)).bind fun M=>(idx e ((0+a * 2)+1 * 1)).bind fun p=>bif p then ((fL ((0+b * 32)+c * 16) a 8).bind fun N=>(idx d (((0+b * 32)+c * 16)+a * 2)).bind fun O=>(fL (((0+b * 32)+c * 16)+a * 2) 1 2).bind fun P=>(idx d ((((0+b * 32)+c * 16)+a * 2)+1 * 1)).bind fun Q=>(idx d ((((0+b * 32)+c * 16)+a * 2)+1 * 1)).bind fun q=>(z64 (a+1)).bind fun r=>some (.inl ((!q),r))) else ((z64 (a+1)).bind fun s=>some (.inl (false,s)))))) else some (.inr f)
def az.j1 (b:Int) (a:Int) (c:Bool):O52:=bif c then some (.inr (.inr (b,a,true))) else ((z64 (a+1)).bind fun d=>some (.inl d))
def az.b3 (g:bZ) (i:LZ) (e:LZ) (h:Int) (a:Int) (b:Int) (j:Bool) (d:Int):O52:=bif (ltZ d (g.2.2.length:Int)) then ((idx g.2.2 d).bind fun c=>(bif j then ((jk i d).bind fun f=>(fL ((0+a * 32)+b * 16) c 8).bind fun n=>(idx e (((0+a * 32)+b * 16)+c * 2)).bind fun o=>(fL (((0+a * 32)+b * 16)+c * 2) f 2).bind fun p=>(idx e ((((0+a * 32)+b * 16)+c * 2)+f * 1)).bind fun q=>(idx e ((((0+a * 32)+b * 16)+c * 2)+f * 1)).bind fun k=>some (!k)) else some false).bind fun l=>az.j1 h d l) else (Option.map Sum.inr ((z64 (h+1)).bind fun m=>some (.inl m)))
def az.j2 (a:bZ) (b:LZ) (c:LZ) (d:Int) (e:Int) (f:Int) (g:Bool):O59:=aw (fun h=>az.b3 a b c d e f g h) 0
def az.b4 (b:bZ) (g:LZ) (c:LZ) (h:LZ) (d:Int):O59:=bif (ltZ d (b.2.2.length:Int)) then ((idx b.2.2 d).bind fun a=>(jk g d).bind fun e=>(fL 0 a 8).bind fun i=>(idx c (0+a * 32)).bind fun j=>(fL (0+a * 32) e 2).bind fun k=>(idx c ((0+a * 32)+e * 16)).bind fun l=>(aw (fun f=>az.b2 b c h a e f.1 f.2) (false,0)).bind fun f=>az.j2 b g c d a e f) else some (.inr (0,0,false))
def az.j3 (a:bZ) (b:LZ) (c:LZ) (d:LZ):Option (Int×Int×Bool):=aw (fun e=>az.b4 a b c d e) 0
def az (b:bZ) (c:LZ) (d:LZ):Option (Int×Int×Bool):=(aw (fun a=>az.b1 b c a.1 a.2) (0,(List.replicate 16 false))).bind fun a=>az.j3 b c d a
def l7 (a:LI) (b:Int):O56:=bif (ltZ b (a.length:Int)) then ((idx a b).bind fun c=>some (c,true)) else some (0,false)
def bB.j1 (c:LI) (d:Int) (a:LZ) (b:Int) (e:Bool):O29:=bif e then some (.inr (.inr (.inr (c,31)))) else ((idx a b).bind fun g=>(idx a b).bind fun h=>(z64 (d+1)).bind fun f=>some (.inl (f,(a.set b.toNat true))))
def bB.b1 (f:bZ) (g:LI) (h:LI) (b:gO) (i:Int) (a:Int) (c:LZ):O29:=bif (ltZ a (b.1.length:Int)) then ((idx b.1 a).bind fun d=>(idx f.2.2 d).bind fun j=>(l7 g j).bind fun e=>(bif e.2 then some (ltZ i e.1) else some false).bind fun k=>bB.j1 h a c d k) else some (.inr (.inl c))
def bB.j2 (c:bZ) (d:LZ) (e:Int) (a:LI) (f:Int) (b:LZ):O33:=(az c b d).bind fun g=>bif g.2.2 then some (.inr (a,27)) else ((app? a ([f]:LI)).bind fun h=>(z64 (e+1)).bind fun i=>some (.inl (i,b,h)))
def bB.j3 (c:bZ) (f:Int) (g:LI) (h:LZ) (i:Int) (j:LZ) (b:LI) (d:gO) (e:Int):O33:=bif (ltZ f (d.1.length:Int)) then some (.inr (b,32)) else ((aw (fun a=>bB.b1 c g b d e a.1 a.2) (0,j)).bind fun a=>match a with | .inl a=>bB.j2 c h i b e a | .inr k=>some k)
def bB.b2 (f:bZ) (d:LY) (g:Int) (h:LI) (i:LZ) (a:Int) (j:LZ) (b:LI):O33:=bif (ltZ a (d.length:Int)) then ((idx d a).bind fun c=>(bif (ltZ 0 a) then ((z64 (a-1)).bind fun e=>(idx b e).bind fun n=>(idx b e).bind fun k=>(z64 (k+1)).bind fun l=>some (max c.2 l)) else some c.2).bind fun m=>bB.j3 f g h i a j b c m) else some (.inr (b,0))
def bB (a:bZ) (d:LY) (e:Int) (f:LI) (c:LZ):Option (LI×Int):=(pN (a.2.2.length:Int) (a.2.2.length:Int)).bind fun h=>(az a (ri (a.2.2.length:Int) (false:Bool)) c).bind fun g=>bif g.2.2 then some ([],27) else (aw (fun b=>bB.b2 a d e f c b.1 b.2.1 b.2.2) (0,(ri (a.2.2.length:Int) (false:Bool)),[]))
def mP.j1 (a:bZ) (c:LY) (d:Int) (e:LI) (f:Bool):Option (LI×Int):=bif f then some ([],1) else ((cD a).bind fun g=>(bB a c d e g).bind fun b=>some (b.1,b.2))
def mP (a:bZ) (b:LY) (c:Int) (d:LI):Option (LI×Int):=((kW a).bind fun e=>bif (!e) then some true else (bif (ltZ c 1) then some true else ((bg a b).bind fun f=>some (!f)))).bind fun g=>mP.j1 a b c d g
def aQ.j1 (c:LI) (d:Int) (a:LZ) (b:Int) (e:Bool):O30:=bif e then some (.inr (.inr (.inr (31,c)))) else ((idx a b).bind fun g=>(idx a b).bind fun h=>(z64 (d+1)).bind fun f=>some (.inl (f,(a.set b.toNat true))))
def aQ.b1 (f:bZ) (g:LI) (h:LI) (b:gO) (i:Int) (a:Int) (c:LZ):O30:=bif (ltZ a (b.1.length:Int)) then ((idx b.1 a).bind fun d=>(idx f.2.2 d).bind fun j=>(l7 g j).bind fun e=>(bif e.2 then some (ltZ i e.1) else some false).bind fun k=>aQ.j1 h a c d k) else some (.inr (.inl c))
def aQ.j2 (c:bZ) (d:LZ) (e:Int) (a:LI) (f:Int) (b:LZ):O34:=(az c b d).bind fun g=>bif g.2.2 then some (.inr (27,a)) else ((app? a ([f]:LI)).bind fun h=>(z64 (e+1)).bind fun i=>some (.inl (i,b,h)))
def aQ.j3 (c:bZ) (f:Int) (g:LI) (h:LZ) (i:Int) (j:LZ) (b:LI) (d:gO) (e:Int):O34:=bif (ltZ f (d.1.length:Int)) then some (.inr (32,b)) else ((aw (fun a=>aQ.b1 c g b d e a.1 a.2) (0,j)).bind fun a=>match a with | .inl a=>aQ.j2 c h i b e a | .inr k=>some k)
def aQ.b2 (f:bZ) (d:LY) (g:Int) (h:LI) (i:LZ) (a:Int) (j:LZ) (b:LI):O34:=bif (ltZ a (d.length:Int)) then ((idx d a).bind fun c=>(bif (ltZ 0 a) then ((z64 (a-1)).bind fun e=>(idx b e).bind fun n=>(idx b e).bind fun k=>(z64 (k+1)).bind fun l=>some (max c.2 l)) else some c.2).bind fun m=>aQ.j3 f g h i a j b c m) else some (.inr (0,b))
def aQ (a:bZ) (d:LY) (e:Int) (f:LI) (c:LZ):O48:=(pN (a.2.2.length:Int) (a.2.2.length:Int)).bind fun h=>(az a (ri (a.2.2.length:Int) (false:Bool)) c).bind fun g=>bif g.2.2 then some (27,[]) else (aw (fun b=>aQ.b2 a d e f c b.1 b.2.1 b.2.2) (0,(ri (a.2.2.length:Int) (false:Bool)),[]))
def jl.j1 (a:bZ) (c:LY) (d:Int) (e:LI) (f:Bool):O48:=bif f then some (1,[]) else ((cD a).bind fun g=>(aQ a c d e g).bind fun b=>some (b.1,b.2))
def jl (a:bZ) (b:LY) (c:Int) (d:LI):O48:=((kW a).bind fun e=>bif (!e) then some true else (bif (ltZ c 1) then some true else ((bg a b).bind fun f=>some (!f)))).bind fun g=>jl.j1 a b c d g
def aK.b1 (a:LY) (c:Int) (b:Int) (d:LY):Option ((Int×Int×LY)⊕(Int×LY)):=bif (ltZ b (a.length:Int)) then ((idx a b).bind fun e=>(z64 (c+(e.1.length:Int))).bind fun f=>(z64 ((a.length:Int)-1)).bind fun g=>(z64 (g-b)).bind fun h=>(idx a h).bind fun i=>(app? d ([(i.1,0)]:LY)).bind fun j=>(z64 (b+1)).bind fun k=>some (.inl (f,k,j))) else some (.inr (c,d))
def aK.j1 (b:bZ) (e:Int) (c:Bool) (f:LY) (d:LI×Int) (g:Bool):O1:=bif g then some c else ((jl (b.2.1,b.1,b.2.2) f e []).bind fun a=>bif (eqZ d.2 0) then (bif c then (bif (eqZ a.1 0) then some (eqZ (d.1.length:Int) (a.2.length:Int)) else some false) else some false) else (bif c then (bif (eqZ d.2 27) then (bif (eqZ a.1 27) then some true else some (eqZ a.1 32)) else some false) else some false))
def aK.j2 (a:bZ) (d:LY) (c:Int) (e:Bool) (f:Int) (g:LY):O1:=(mP a d c []).bind fun b=>(bif (eqZ b.2 1) then some true else (bif (eqZ b.2 32) then some true else some (!eqZ f (a.2.2.length:Int)))).bind fun h=>aK.j1 a c e g b h
def aK.j3 (d:bZ) (b:LY) (e:Int) (c:Bool) (f:Bool):O1:=bif f then some c else ((aw (fun a=>aK.b1 b a.1 a.2.1 a.2.2) (0,0,[])).bind fun a=>aK.j2 d b e c a.1 a.2)
def aK (a:bZ) (b:LY) (c:Int):O1:=(eZ).bind fun d=>((iS a).bind fun e=>bif (!e) then some true else ((cw b).bind fun f=>some (!f))).bind fun g=>aK.j3 a b c d g
end
end Go.Proofs.YtcppfkflcigjcaaGreatDoor
