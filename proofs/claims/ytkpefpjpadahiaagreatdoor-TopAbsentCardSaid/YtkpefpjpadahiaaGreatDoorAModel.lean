import Derived.Test.YtkpefpjpadahiaaGreatDoorEL
import Derived.Test.YtkpefpjpadahiaaGreatDoorProg
import Derived.KernelRfl
namespace Go.Proofs.YtkpefpjpadahiaaGreatDoor
open Go.Lad
set_option linter.unusedVariables false
set_option linter.unusedSectionVars false
abbrev cZ:Type:=Int×Int×Int
abbrev bB:Type:=cZ×cZ
abbrev im:Type:=Bs×List Bs
abbrev jG:Type:=Bs×(List bB)×Int×im
abbrev ff:Type:=Bs×cZ×Bs×(List jG)×(List im)×(List Bs)×Bs
abbrev fq:Type:=Int×Int×Bs×Bs×(List Bs)×List ck
abbrev kS:Type:=Int×Bs×(List bB)×Bs×fq
abbrev bX:Type:=Int×Bs×cZ×ff×kS×(List Int)×Int×cZ
abbrev da:Type:=Int×Bs×Int
abbrev lq:Type:=(List Int)×Int
abbrev ew:Type:=Int×Bs
abbrev eY:Type:=Int×Int×ew
abbrev PO:Type:=Int×Int
abbrev dM:Type:=Int×Bs×List aE
abbrev pX:Type:=Bs×Int×Int
abbrev Pz:Type:=Bs×Bool
abbrev kj:Type:=da×Int
def IF (f:bX):bX:=(f.1,f.2.1,f.2.2.1,f.2.2.2.1,(f.2.2.2.2.1.1,f.2.2.2.2.1.2.1,f.2.2.2.2.1.2.2.1,f.2.2.2.2.1.2.2.2.1,f.2.2.2.2.1.2.2.2.2.1,f.2.2.2.2.1.2.2.2.2.2.1,f.2.2.2.2.1.2.2.2.2.2.2.1,f.2.2.2.2.1.2.2.2.2.2.2.2.1,f.2.2.2.2.1.2.2.2.2.2.2.2.2.1,((f.2.2.2.2.1.2.2.2.2.2.2.2.2.2.map (Uun 1)).map (Umk 1))),f.2.2.2.2.2)
def IA (a:kS):kS:=(a.1,a.2.1,a.2.2.1,a.2.2.2.1,a.2.2.2.2.1,a.2.2.2.2.2.1,a.2.2.2.2.2.2.1,a.2.2.2.2.2.2.2.1,a.2.2.2.2.2.2.2.2.1,((a.2.2.2.2.2.2.2.2.2.map (Uun 1)).map (Umk 1)))
abbrev LE:Type:=List fq
abbrev LS:Type:=List ew
abbrev LM:Type:=List (ew×Int)
abbrev LK:Type:=List (Bs×Int)
abbrev LG:Type:=List da
abbrev LC:Type:=List eY
abbrev LF:Type:=List bX
abbrev LB:Type:=List Bs
abbrev LI:Type:=List Int
abbrev Gr1:Type:=Int->Int->Bs->Bs->LB->LE->Int->Bool->LI->Option (Bool×LI)
abbrev Gr2:Type:=LB->Option (dM×Bool×LB)
abbrev Gr3:Type:=Int->Int->Bs->Bs->LB->LE->Int->Int->Bs->Bs->LB->LE->Option Bool
abbrev Gr4:Type:=Int->Int->Bs->Bs->LB->LE->Int->Int->Option Int
abbrev Gr5:Type:=Int->Int->Bs->Bs->LB->LE->Int->Option Bool
abbrev Gr6:Type:=Int->Bs->List dM->Int->Option Int
noncomputable section
variable [Fuel]
def kT:Option (LS×LM) :=
 some ([],([]:List ((Int×Bs)×Int)))
def jq.j1 (key1:Int) (v4:Bool):Option (Int×Int×Int×LG×LC×LS×LK) :=
 bif v4 then
 none
 else
 some (key1,0,(-1),[],[],([]:List (Int×Bs)),([]:LK))
def jq (key1:Int) (p2:LS) (p3:LM):Option (Int×Int×Int×LG×LC×LS×LK) :=
 (bif (ltZ key1 0) then
 some true
 else
 some (leZ 200 key1)).bind fun x =>
 jq.j1 key1 x
def eO (name1:Bs) (key2:Int):Option bX :=
 some (5,name1,(0,0,0),(([]:Bs),(0,0,0),([]:Bs),[],[],[],([]:Bs)),(0,([]:Bs),[],([]:Bs),0,0,([]:Bs),([]:Bs),[],[]),([key2]:LI),1,0,0,0)
def strings_Split (s:Bs) (sep:Bs):Option LB:=tf s sep
def bj.j1 (v8:Int) (v10:Bool):Option ((Int)⊕((Int)⊕(Bool))) :=
 bif v10 then
 some (.inr (.inr false))
 else
 ((z64 (v8+1)).bind fun v11 =>
 some (.inl v11))
def bj.b1 (v3:Int) (v4:Bs) (v8:Int):Option ((Int)⊕((Int)⊕(Bool))) :=
 bif (ltZ v8 ((bJ v4).length:Int)) then
 ((idx (bJ v4) v8).bind fun v9 =>
 (bif (ltZ v9 97) then
  (bif (ltZ v9 48) then
  some true
  else
  some (ltZ 57 v9))
 else
  (bif (ltZ 122 v9) then
  (bif (ltZ v9 48) then
   some true
  else
   some (ltZ 57 v9))
  else
  some false)).bind fun x =>
 bj.j1 v8 x)
 else
 (Option.map Sum.inr ((z64 (v3+1)).bind fun v12 =>
 some (.inl v12)))
def bj.j2 (v3:Int) (v4:Bs) (v7:Bool):Option ((Int)⊕(Bool)) :=
 bif v7 then
 some (.inr false)
 else
 (bS (fun x=>bj.b1 v3 v4 x) 0)
def bj.b2 (s2:LB) (v3:Int):Option ((Int)⊕(Bool)) :=
 bif (ltZ v3 (s2.length:Int)) then
 ((idx s2 v3).bind fun v4 =>
 (bif (decide (v4=([]:Bs))) then
  some true
 else
  (bif (eqZ v3 0) then
  ((bAt v4 0).bind fun c5 =>
  bif (ltZ c5 97) then
   some true
  else
   ((bAt v4 0).bind fun c6 =>
   some (ltZ 122 c6)))
  else
  some false)).bind fun x =>
 bj.j2 v3 v4 x)
 else
 some (.inr true)
def bj (name1:Bs):Option Bool :=
 bif (ltZ 20 (name1.length:Int)) then
 some false
 else
 ((strings_Split name1 ([45]:Bs)).bind fun s2 =>
 bS (fun x=>bj.b2 s2 x) 0)
def cA (p1:cZ):Option Bool :=
 bif (leZ 0 (min (min p1.1 p1.2.1) p1.2.2)) then
 some (leZ (max (max p1.1 p1.2.1) p1.2.2) 1048576)
 else
 some false
def eL.j1 (v2:Int) (v7:Bool):Option ((Int)⊕(Bool)) :=
 bif v7 then
 some (.inr false)
 else
 ((z64 (v2+1)).bind fun v8 =>
 some (.inl v8))
def eL.b1 (l1:LB) (v2:Int):Option ((Int)⊕(Bool)) :=
 bif (ltZ v2 (l1.length:Int)) then
 ((idx l1 v2).bind fun v3 =>
 ((bj v3).bind fun r4 =>
 bif (!r4) then
  some true
 else
  (bif (ltZ 0 v2) then
  ((z64 (v2-1)).bind fun v5 =>
  (idx l1 v5).bind fun v6 =>
  some (!Op.bytesLess v6 v3))
  else
  some false)).bind fun x =>
 eL.j1 v2 x)
 else
 some (.inr (leZ (l1.length:Int) 12))
def eL (l1:LB):Option Bool :=
 bS (fun x=>eL.b1 l1 x) 0
def aZ.b1 (s1:LB) (p2:Bs) (v3:Int):Option ((Int)⊕(Int)) :=
 bif (ltZ v3 (s1.length:Int)) then
 ((idx s1 v3).bind fun v4 =>
 bif (decide (p2=v4)) then
  some (.inr v3)
 else
  ((z64 (v3+1)).bind fun v5 =>
  some (.inl v5)))
 else
 some (.inr (-1))
def aZ (s1:LB) (p2:Bs):Option Int :=
 bS (fun x=>aZ.b1 s1 p2 x) 0
def bT (s1:LB) (p2:Bs):Option Bool :=
 (aZ s1 p2).bind fun s3 =>
 some (leZ 0 s3)
def iI (s1:Bs) (p2:LB):Option Bool :=
 (bT p2 s1).bind fun s3 =>
 some (!s3)
def bC.b1 (s1:LB) (p2:LB) (v3:Int):Option ((Int)⊕(Int)) :=
 bif (ltZ v3 (s1.length:Int)) then
 ((idx s1 v3).bind fun v4 =>
 (iI v4 p2).bind fun v'5 =>
 bif v'5 then
  some (.inr v3)
 else
  ((z64 (v3+1)).bind fun v6 =>
  some (.inl v6)))
 else
 some (.inr (-1))
def bC (s1:LB) (p2:LB):Option Int :=
 bS (fun x=>bC.b1 s1 p2 x) 0
def cF (s1:LB) (p2:LB):Option Bool :=
 (bC s1 p2).bind fun s3 =>
 some (leZ 0 s3)
def cm (s1:List bB):Option (List bB) :=
 po s1 (
 some []) (
 (app? ([]:List bB) s1).bind fun l2 =>
 some l2)
def cmp_isNaN_int (x1:Int):Option Bool :=
 some (!eqZ x1 x1)
def cmp_Compare_int (x1:Int) (y2:Int):Option Int :=
 (cmp_isNaN_int x1).bind fun i3 =>
 (cmp_isNaN_int y2).bind fun i4 =>
 bif i3 then
 (bif i4 then
  some 0
 else
  some (-1))
 else
 (bif i4 then
  some 1
 else
  (bif (ltZ x1 y2) then
  some (-1)
  else
  (bif (ltZ y2 x1) then
   some 1
  else
   some 0)))
def gr.b1 (vals1:LI) (v2:Int):Option ((Int)⊕(Int)) :=
 bif (ltZ v2 (vals1.length:Int)) then
 ((idx vals1 v2).bind fun v3 =>
 bif (!eqZ v3 0) then
  some (.inr v3)
 else
  ((z64 (v2+1)).bind fun v4 =>
  some (.inl v4)))
 else
 some (.inr 0)
def gr (vals1:LI):Option Int :=
 bS (fun x=>gr.b1 vals1 x) 0
def cw (a1:cZ) (b2:cZ):Option Int :=
 (cmp_Compare_int a1.1 b2.1).bind fun i3 =>
 (cmp_Compare_int a1.2.1 b2.2.1).bind fun i4 =>
 (cmp_Compare_int a1.2.2 b2.2.2).bind fun i5 =>
 (gr ([i3,i4,i5]:LI)).bind fun i6 =>
 some i6
def fg (r1:bB):Option Bool :=
 (cw r1.1 r1.2).bind fun c2 =>
 some (leZ 0 c2)
def aV.b1 (s1:List bB) (v2:Int):Option ((Int)⊕(Int)) :=
 bif (ltZ v2 (s1.length:Int)) then
 ((idx s1 v2).bind fun _3 =>
 (idx s1 v2).bind fun v4 =>
 (fg v4).bind fun v'5 =>
 bif v'5 then
  some (.inr v2)
 else
  ((z64 (v2+1)).bind fun v6 =>
  some (.inl v6)))
 else
 some (.inr (-1))
def aV (s1:List bB):Option Int :=
 bS (fun x=>aV.b1 s1 x) 0
def aT.b1 (i4:Int) (j5:Int) (s6:List bB):Option ((Int×Int×List bB)⊕(List bB)) :=
 bif (ltZ j5 (s6.length:Int)) then
 ((idx s6 j5).bind fun _7 =>
 (idx s6 j5).bind fun v8 =>
 (fg v8).bind fun v'9 =>
 bif (!v'9) then
  ((idx s6 i4).bind fun _10 =>
  (idx s6 i4).bind fun v11 =>
  (z64 (i4+1)).bind fun v12 =>
  (z64 (j5+1)).bind fun v13 =>
  some (.inl (v12,v13,(s6.set i4.toNat v8))))
 else
  ((z64 (j5+1)).bind fun v14 =>
  some (.inl (i4,v14,s6))))
 else
 (Option.map Sum.inr ((cut s6 i4 (s6.length:Int)).bind fun _15 =>
 (qM (i4.toNat<=(s6.length:Int).toNat/\(s6.length:Int).toNat<=s6.length)).bind fun _16 =>
 (cut (KX s6 i4 (s6.length:Int) ((0,0,0),0,0,0)) 0 i4).bind fun l17 =>
 some l17))
def aT (s1:List bB):Option (List bB) :=
 (aV s1).bind fun r2 =>
 bif (eqZ r2 (-1)) then
 some s1
 else
 ((z64 (r2+1)).bind fun v3 =>
 bS (fun x=>aT.b1 x.1 x.2.1 x.2.2) (r2,v3,s1))
def bits_Len (n:Int):Option Int:=rW n
def gS (a1:bB) (b2:bB):Option Int :=
 (cw a1.1 b2.1).bind fun c3 =>
 some c3
def ay.j1 (i5:Int) (j7:Int) (data8:List bB) (v15:Bool):Option ((Int×List bB)⊕((Int×List bB)⊕(List bB))) :=
 bif v15 then
 ((z64 (j7-1)).bind fun v16 =>
 (z64 (j7-1)).bind fun v17 =>
 (idx data8 v17).bind fun _18 =>
 (idx data8 v17).bind fun v19 =>
 (idx data8 j7).bind fun _20 =>
 (idx data8 j7).bind fun v21 =>
 (idx data8 j7).bind fun _22 =>
 (idx data8 j7).bind fun v23 =>
 (idx (data8.set j7.toNat v19) v16).bind fun _24 =>
 (idx (data8.set j7.toNat v19) v16).bind fun v25 =>
 (z64 (j7-1)).bind fun v26 =>
 some (.inl (v26,((data8.set j7.toNat v19).set v16.toNat v21))))
 else
 (Option.map Sum.inr ((z64 (i5+1)).bind fun v27 =>
 some (.inl (v27,data8))))
def ay.b1 (a1:Int) (i5:Int) (j7:Int) (data8:List bB):Option ((Int×List bB)⊕((Int×List bB)⊕(List bB))) :=
 (bif (ltZ a1 j7) then
 ((idx data8 j7).bind fun _9 =>
 (idx data8 j7).bind fun v10 =>
 (z64 (j7-1)).bind fun v11 =>
 (idx data8 v11).bind fun _12 =>
 (idx data8 v11).bind fun v13 =>
 (gS v10 v13).bind fun v'14 =>
 some (ltZ v'14 0))
 else
 some false).bind fun x =>
 ay.j1 i5 j7 data8 x
def ay.b2 (a1:Int) (b2:Int) (i5:Int) (data6:List bB):Option ((Int×List bB)⊕(List bB)) :=
 bif (ltZ i5 b2) then
 (bS (fun x=>ay.b1 a1 i5 x.1 x.2) (i5,data6))
 else
 some (.inr data6)
def ay (a1:Int) (b2:Int) (data3:List bB):Option (List bB) :=
 (z64 (a1+1)).bind fun v4 =>
 bS (fun x=>ay.b2 a1 b2 x.1 x.2) (v4,data3)
def bw.b1 (data4:List bB) (a5:Int) (b6:Int) (limit7:Int) (wasBalanced8:Bool) (wasPartitioned9:Bool):Option ((Int×Int×Int×Bool×Bool)⊕(List bB)) :=
 (z64 (b6-a5)).bind fun v10 =>
 bif (leZ v10 12) then
 ((ay a5 b6 data4).bind fun r11 =>
 some (.inr r11))
 else
 (bif (eqZ limit7 0) then
  none
 else
  (bif (!wasBalanced8) then
  none
  else
  none))
def bw (a1:Int) (b2:Int) (limit3:Int) (data4:List bB):Option (List bB) :=
 bS (fun x=>bw.b1 data4 x.1 x.2.1 x.2.2.1 x.2.2.2.1 x.2.2.2.2) (a1,b2,limit3,true,true)
def bU (x1:List bB):Option (List bB) :=
 (bits_Len (IntKind.u64.wrap (x1.length:Int))).bind fun l2 =>
 (bw 0 (x1.length:Int) l2 x1).bind fun r3 =>
 some r3
def dT.j1 (v5:Int) (out6:List bB) (v8:bB) (v9:Int) (v13:Bool):Option ((Int×List bB)⊕(List bB)) :=
 bif v13 then
 ((idx out6 v9).bind fun _14 =>
 (idx out6 v9).bind fun v15 =>
 (cw v15.2 v8.2).bind fun c16 =>
 bif (ltZ c16 0) then
  ((idx out6 v9).bind fun _17 =>
  (idx out6 v9).bind fun v18 =>
  (z64 (v5+1)).bind fun v19 =>
  some (.inl (v19,(out6.set v9.toNat (v18.1,v8.2)))))
 else
  ((z64 (v5+1)).bind fun v20 =>
  some (.inl (v20,out6))))
 else
 ((app? out6 ([v8]:List bB)).bind fun l21 =>
 (z64 (v5+1)).bind fun v22 =>
 some (.inl (v22,l21)))
def dT.b1 (r4:List bB) (v5:Int) (out6:List bB):Option ((Int×List bB)⊕(List bB)) :=
 bif (ltZ v5 (r4.length:Int)) then
 ((idx r4 v5).bind fun _7 =>
 (idx r4 v5).bind fun v8 =>
 (z64 ((out6.length:Int)-1)).bind fun v9 =>
 (bif (leZ 0 v9) then
  ((idx out6 v9).bind fun _10 =>
  (idx out6 v9).bind fun v11 =>
  (cw v8.1 v11.2).bind fun c12 =>
  some (leZ c12 0))
 else
  some false).bind fun x =>
 dT.j1 v5 out6 v8 v9 x)
 else
 some (.inr out6)
def dT (l1:List bB):Option (List bB) :=
 (cm l1).bind fun r2 =>
 (aT r2).bind fun r3 =>
 (bU r3).bind fun r4 =>
 bS (fun x=>dT.b1 r4 x.1 x.2) (0,[])
def aH.b1 (s1'1:List bB) (s2'2:List bB) (v3:Int):Option ((Int)⊕(Bool)) :=
 bif (ltZ v3 (s1'1.length:Int)) then
 ((idx s1'1 v3).bind fun v4 =>
 (idx s2'2 v3).bind fun v5 =>
 bif (!((eqZ v4.1.1 v5.1.1 && (eqZ v4.1.2.1 v5.1.2.1 && (eqZ v4.1.2.2 v5.1.2.2 && (eqZ v4.2.1 v5.2.1 && (eqZ v4.2.2.1 v5.2.2.1 && eqZ v4.2.2.2 v5.2.2.2))))))) then
  some (.inr false)
 else
  ((z64 (v3+1)).bind fun v6 =>
  some (.inl v6)))
 else
 some (.inr true)
def aH (s1'1:List bB) (s2'2:List bB):Option Bool :=
 bif (!eqZ (s1'1.length:Int) (s2'2.length:Int)) then
 some false
 else
 (bS (fun x=>aH.b1 s1'1 s2'2 x) 0)
def dd.j1 (v2:Int) (v6:Bool):Option ((Int)⊕((Unit)⊕(Bool))) :=
 bif v6 then
 some (.inr (.inr false))
 else
 ((z64 (v2+1)).bind fun v7 =>
 some (.inl v7))
def dd.b1 (l1:List bB) (v2:Int):Option ((Int)⊕((Unit)⊕(Bool))) :=
 bif (ltZ v2 (l1.length:Int)) then
 ((idx l1 v2).bind fun v3 =>
 ((cA v3.1).bind fun r4 =>
 bif (!r4) then
  some true
 else
  ((cA v3.2).bind fun r5 =>
  some (!r5))).bind fun x =>
 dd.j1 v2 x)
 else
 some (.inr (.inl ()))
def dd.j2 (l1:List bB):Option Bool :=
 bif (leZ (l1.length:Int) 6) then
 ((dT l1).bind fun n8 =>
 (aH n8 l1).bind fun r9 =>
 some r9)
 else
 some false
def dd (l1:List bB):Option Bool :=
 (bS (fun x=>dd.b1 l1 x) 0).bind fun x=>match x with
 | .inl x =>
 dd.j2 l1
 | .inr r=>some r
def dH.j1 (n1:jG) (v7:Bool):Option Bool :=
 bif v7 then
 some false
 else
 ((eL n1.2.2.2.2).bind fun l8 =>
 bif l8 then
  (bif (eqZ n1.2.2.1 0) then
  some true
  else
  some (eqZ (n1.2.2.2.2.length:Int) 0))
 else
  some false)
def dH.j2 (n1:jG) (features2:LB) (v5:Bool):Option Bool :=
 bif v5 then
 some false
 else
 ((bif (!decide (n1.2.2.2.1=([]:Bs))) then
  ((bT features2 n1.2.2.2.1).bind fun s6 =>
  some (!s6))
 else
  some false).bind fun x =>
 dH.j1 n1 x)
def dH (n1:jG) (features2:LB):Option Bool :=
 ((bj n1.1).bind fun r3 =>
 bif (!r3) then
 some (!r3)
 else
 ((dd n1.2.1).bind fun p4 =>
 bif (!p4) then
  some (!p4)
 else
  (bif (ltZ n1.2.2.1 0) then
  some (ltZ n1.2.2.1 0)
  else
  some (leZ 3 n1.2.2.1)))).bind fun x =>
 dH.j2 n1 features2 x
def iJ (n1:jG) (p2:LB):Option Bool :=
 (dH n1 p2).bind fun r3 =>
 some (!r3)
def ba.b1 (s1:List jG) (p2:LB) (v3:Int):Option ((Int)⊕(Int)) :=
 bif (ltZ v3 (s1.length:Int)) then
 ((idx s1 v3).bind fun v4 =>
 (iJ v4 p2).bind fun v'5 =>
 bif v'5 then
  some (.inr v3)
 else
  ((z64 (v3+1)).bind fun v6 =>
  some (.inl v6)))
 else
 some (.inr (-1))
def ba (s1:List jG) (p2:LB):Option Int :=
 bS (fun x=>ba.b1 s1 p2 x) 0
def cg (s1:List jG) (p2:LB):Option Bool :=
 (ba s1 p2).bind fun n3 =>
 some (leZ 0 n3)
def eC (oldnew1:LB):Option (Int×Int×Int×LB) :=
 (KW .i64 (oldnew1.length:Int) 2).bind fun v2 =>
 bif (eqZ v2 1) then
 none
 else
 ((app? [] oldnew1).bind fun l3 =>
 some (0,0,0,l3))
def cX (s:Bs) (a b c:Int) (l:LB):Option Bs:=BF a b l s
def bm.j1 (t2:LB) (v4:Bool):Option (Bool×LB) :=
 bif v4 then
 ((cut t2 1 (t2.length:Int)).bind fun l5 =>
 some (true,l5))
 else
 some (false,t2)
def bm (s1:Bs) (t2:LB):Option (Bool×LB) :=
 (bif (ltZ 0 (t2.length:Int)) then
 ((idx t2 0).bind fun v3 =>
 some (decide (v3=s1)))
 else
 some false).bind fun x =>
 bm.j1 t2 x
def gA (s:Bs) (cs:Bs):Option Bs:=BD s cs
def eP (s:Bs):Option Bool:=wG s
def dX.j1 (s1:Bs) (v4:Bool):Option Bool :=
 bif v4 then
 some false
 else
 ((gA s1 ([97,98,99,100,101,102,103,104,105,106,107,108,109,110,111,112,113,114,115,116,117,118,119,120,121,122,48,49,50,51,52,53,54,55,56,57,45,46]:Bs)).bind fun t5 =>
 bif (decide (t5=([]:Bs))) then
  ((eP s1).bind fun c6 =>
  some (!c6))
 else
  some false)
def dX (s1:Bs):Option Bool :=
 (bif (decide (s1=([]:Bs))) then
 some true
 else
 (bif (ltZ 20 (s1.length:Int)) then
  some true
 else
  (bif (decide (s1=([97,110,100]:Bs))) then
  some true
  else
  (bif (decide (s1=([111,114]:Bs))) then
   some true
  else
   ((bAt s1 0).bind fun c2 =>
   bif (ltZ c2 97) then
   some true
   else
   ((bAt s1 0).bind fun c3 =>
   some (ltZ 122 c3))))))).bind fun x =>
 dX.j1 s1 x
def dh.j1 (t1:LB) (v4:Bool):Option (Bs×Bool×LB) :=
 bif v4 then
 some (([]:Bs),false,t1)
 else
 ((idx t1 0).bind fun v5 =>
 (cut t1 1 (t1.length:Int)).bind fun l6 =>
 some (v5,true,l6))
def dh (t1:LB):Option (Bs×Bool×LB) :=
 (bif (eqZ (t1.length:Int) 0) then
 some true
 else
 ((idx t1 0).bind fun v2 =>
 (dX v2).bind fun n3 =>
 some (!n3))).bind fun x =>
 dh.j1 t1 x
def dU (Gr:Gr2) (p1:LB):Option (dM×Bool×LB) :=
 (bm ([40]:Bs) p1).bind fun s2 =>
 bif s2.1 then
 ((Gr s2.2).bind fun a3 =>
 bif a3.2.1 then
  ((bm ([41]:Bs) a3.2.2).bind fun s4 =>
  some ((a3.1.1,a3.1.2.1,((a3.1.2.2.map (Uun 2)).map (Umk 2))),s4.1,s4.2))
 else
  some ((a3.1.1,a3.1.2.1,((a3.1.2.2.map (Uun 2)).map (Umk 2))),false,a3.2.2))
 else
 ((dh s2.2).bind fun w5 =>
 some ((0,w5.1,[]),w5.2.1,w5.2.2))
def aW.j1 (Gr:Gr2) (op1:Int) (e6:Int) (e7:Bs) (v8:List dM) (v10:Bool) (p11:LB):Option ((Bool×LB×Int×Bs×List dM)⊕((Int×Bs×Int×Bs×LB×List dM)⊕(dM×Bool×LB))) :=
 bif v10 then
 ((dU Gr p11).bind fun p12 =>
 bif (!p12.2.1) then
  some (.inr (.inr ((0,([]:Bs),[]),false,p12.2.2)))
 else
  (bif (eqZ p12.1.1 op1) then
  ((app? v8 (p12.1.2.2.map (Uun 2))).bind fun l13 =>
  some (.inl (false,p12.2.2,e6,e7,l13)))
  else
  ((app? v8 ([(p12.1.1,p12.1.2.1,((p12.1.2.2.map (Uun 2)).map (Umk 2)))]:List dM)).bind fun l14 =>
  some (.inl (false,p12.2.2,e6,e7,l14)))))
 else
 some (.inr (.inl (0,([]:Bs),e6,e7,p11,v8)))
def aW.b1 (Gr:Gr2) (op1:Int) (between2:Bs) (first4:Bool) (p5:LB) (e6:Int) (e7:Bs) (v8:List dM):Option ((Bool×LB×Int×Bs×List dM)⊕((Int×Bs×Int×Bs×LB×List dM)⊕(dM×Bool×LB))) :=
 (bif first4 then
 some (true,p5)
 else
 ((bm between2 p5).bind fun s9 =>
 some (s9.1,s9.2))).bind fun x =>
 aW.j1 Gr op1 e6 e7 v8 x.1 x.2
def aW.j2 (v15:Int) (v16:Bs) (e17:Int) (e18:Bs) (v19:LB) (v20:List dM):Option (dM×Bool×LB) :=
 bif (eqZ (v20.length:Int) 1) then
 ((idx v20 0).bind fun _21 =>
 (idx v20 0).bind fun v22 =>
 some ((v22.1,v22.2.1,((v22.2.2.map (Uun 2)).map (Umk 2))),true,v19))
 else
 some ((e17,e18,(v20.map (Umk 2))),true,v19)
def aW (Gr:Gr2) (op1:Int) (between2:Bs) (p3:LB):Option (dM×Bool×LB) :=
 (bS (fun x=>aW.b1 Gr op1 between2 x.1 x.2.1 x.2.2.1 x.2.2.2.1 x.2.2.2.2) (true,p3,op1,([]:Bs),[])).bind fun x=>match x with
 | .inl x =>
 aW.j2 x.1 x.2.1 x.2.2.1 x.2.2.2.1 x.2.2.2.2.1 x.2.2.2.2.2
 | .inr r=>some r
def cC (Gr:Gr2) (p1:LB):Option (dM×Bool×LB) :=
 (aW Gr 1 ([97,110,100]:Bs) p1).bind fun v2 =>
 some ((v2.1.1,v2.1.2.1,((v2.1.2.2.map (Uun 2)).map (Umk 2))),v2.2.1,v2.2.2)
def bQ.j1 (Gr:Gr2) (op1:Int) (e6:Int) (e7:Bs) (v8:List dM) (v10:Bool) (p11:LB):Option ((Bool×LB×Int×Bs×List dM)⊕((Int×Bs×Int×Bs×LB×List dM)⊕(dM×Bool×LB))) :=
 bif v10 then
 ((cC Gr p11).bind fun s12 =>
 bif (!s12.2.1) then
  some (.inr (.inr ((0,([]:Bs),[]),false,s12.2.2)))
 else
  (bif (eqZ s12.1.1 op1) then
  ((app? v8 (s12.1.2.2.map (Uun 2))).bind fun l13 =>
  some (.inl (false,s12.2.2,e6,e7,l13)))
  else
  ((app? v8 ([(s12.1.1,s12.1.2.1,((s12.1.2.2.map (Uun 2)).map (Umk 2)))]:List dM)).bind fun l14 =>
  some (.inl (false,s12.2.2,e6,e7,l14)))))
 else
 some (.inr (.inl (0,([]:Bs),e6,e7,p11,v8)))
def bQ.b1 (Gr:Gr2) (op1:Int) (between2:Bs) (first4:Bool) (p5:LB) (e6:Int) (e7:Bs) (v8:List dM):Option ((Bool×LB×Int×Bs×List dM)⊕((Int×Bs×Int×Bs×LB×List dM)⊕(dM×Bool×LB))) :=
 (bif first4 then
 some (true,p5)
 else
 ((bm between2 p5).bind fun s9 =>
 some (s9.1,s9.2))).bind fun x =>
 bQ.j1 Gr op1 e6 e7 v8 x.1 x.2
def bQ.j2 (v15:Int) (v16:Bs) (e17:Int) (e18:Bs) (v19:LB) (v20:List dM):Option (dM×Bool×LB) :=
 bif (eqZ (v20.length:Int) 1) then
 ((idx v20 0).bind fun _21 =>
 (idx v20 0).bind fun v22 =>
 some ((v22.1,v22.2.1,((v22.2.2.map (Uun 2)).map (Umk 2))),true,v19))
 else
 some ((e17,e18,(v20.map (Umk 2))),true,v19)
def bQ (Gr:Gr2) (op1:Int) (between2:Bs) (p3:LB):Option (dM×Bool×LB) :=
 (bS (fun x=>bQ.b1 Gr op1 between2 x.1 x.2.1 x.2.2.1 x.2.2.2.1 x.2.2.2.2) (true,p3,op1,([]:Bs),[])).bind fun x=>match x with
 | .inl x =>
 bQ.j2 x.1 x.2.1 x.2.2.1 x.2.2.2.1 x.2.2.2.2.1 x.2.2.2.2.2
 | .inr r=>some r
def aj.body (Gr:Gr2) (p1:LB):Option (dM×Bool×LB) :=
 (bQ Gr 2 ([111,114]:Bs) p1).bind fun s2 =>
 some ((s2.1.1,s2.1.2.1,((s2.1.2.2.map (Uun 2)).map (Umk 2))),s2.2.1,s2.2.2)
def aj.rec:Nat->LB->Option (dM×Bool×LB)
 | 0=>fun _=>none
 | n+1=>aj.body (aj.rec n)
def aj (p1:LB):Option (dM×Bool×LB):=aj.rec Fuel.n p1
def bn.j1 (v6:Bool):Option Int :=
 bif v6 then
 some 17
 else
 some 1
def bn.b1 (Gr:Gr6) (e1:Int) (e3:List dM) (levels4:Int) (n8:Int) (v9:Int):Option ((Int×Int)⊕(Int)) :=
 bif (ltZ v9 (e3.length:Int)) then
 ((idx e3 v9).bind fun v10 =>
 bif (eqZ v10.1 e1) then
  some (.inr 17)
 else
  ((z64 (levels4+1)).bind fun v11 =>
  (Gr v10.1 v10.2.1 (v10.2.2.map (Uun 2)) v11).bind fun s12 =>
  (z64 (n8+s12)).bind fun v13 =>
  bif (ltZ 16 v13) then
  some (.inr v13)
  else
  ((z64 (v9+1)).bind fun v14 =>
  some (.inl (v13,v14)))))
 else
 some (.inr n8)
def bn.j2 (Gr:Gr6) (e1:Int) (e3:List dM) (levels4:Int) (v7:Bool):Option Int :=
 bif v7 then
 some 17
 else
 (bS (fun x=>bn.b1 Gr e1 e3 levels4 x.1 x.2) (0,0))
def bn.body (Gr:Gr6) (e1:Int) (e2:Bs) (e3:List dM) (levels4:Int):Option Int :=
 bif (eqZ e1 0) then
 (((dX e2).bind fun n5 =>
 bif (!n5) then
  some true
 else
  some (ltZ 0 (e3.length:Int))).bind fun x =>
 bn.j1 x)
 else
 ((bif (!eqZ e1 1) then
  (bif (!eqZ e1 2) then
  some true
  else
  (bif (!decide (e2=([]:Bs))) then
   some true
  else
   (bif (ltZ (e3.length:Int) 2) then
   some true
   else
   some (ltZ 16 levels4))))
 else
  (bif (!decide (e2=([]:Bs))) then
  some true
  else
  (bif (ltZ (e3.length:Int) 2) then
   some true
  else
   some (ltZ 16 levels4)))).bind fun x =>
 bn.j2 Gr e1 e3 levels4 x)
def bn.rec:Nat->Int->Bs->List dM->Int->Option Int
 | 0=>fun _ _ _ _=>none
 | n+1=>bn.body (bn.rec n)
def bn (e1:Int) (e2:Bs) (e3:List dM) (levels4:Int):Option Int:=bn.rec Fuel.n e1 e2 e3 levels4
def gE (e1:Int) (e2:Bs) (e3:List dM):Option Bool :=
 (bn e1 e2 e3 0).bind fun s4 =>
 some (leZ s4 16)
def cB.b1 (s4:LB) (v5:Int) (l6:LB):Option ((Int×LB)⊕LB) :=
 bif (ltZ v5 (s4.length:Int)) then
 ((idx s4 v5).bind fun v7 =>
 bif (!decide (v7=([]:Bs))) then
  ((app? l6 ([v7]:LB)).bind fun l8 =>
  (z64 (v5+1)).bind fun v9 =>
  some (.inl (v9,l8)))
 else
  ((z64 (v5+1)).bind fun v10 =>
  some (.inl (v10,l6))))
 else
 some (.inr l6)
def cB.j1 (a12:dM×Bool×LB) (v13:Bool):Option (dM×Int) :=
 bif v13 then
 some ((0,([]:Bs),[]),2)
 else
 ((gE a12.1.1 a12.1.2.1 (a12.1.2.2.map (Uun 2))).bind fun r14 =>
 bif (!r14) then
  some ((0,([]:Bs),[]),6)
 else
  some ((a12.1.1,a12.1.2.1,((a12.1.2.2.map (Uun 2)).map (Umk 2))),0))
def cB.j2 (l11:LB):Option (dM×Int) :=
 (aj l11).bind fun a12 =>
 (bif (!a12.2.1) then
 some true
 else
 some (ltZ 0 (a12.2.2.length:Int))).bind fun x =>
 cB.j1 a12 x
def cB (s1:Bs):Option (dM×Int) :=
 bif (ltZ 1000 (s1.length:Int)) then
 some ((0,([]:Bs),[]),6)
 else
 (((eC ([([40]:Bs),([32,40,32]:Bs),([41]:Bs),([32,41,32]:Bs)]:LB)).bind fun n2 =>
 (cX s1 n2.1 n2.2.1 n2.2.2.1 n2.2.2.2).bind fun r3 =>
 (strings_Split r3 ([32]:Bs)).bind fun s4 =>
 bS (fun x=>cB.b1 s4 x.1 x.2) (0,[])).bind fun x =>
 cB.j2 x)
def bM.b1 (r1:ff) (v2:Int) (v3:LB):Option ((Int×LB)⊕LB) :=
 bif (ltZ v2 (r1.2.2.2.2.1.length:Int)) then
 ((idx r1.2.2.2.2.1 v2).bind fun v4 =>
 (app? v3 ([v4.1]:LB)).bind fun l5 =>
 (z64 (v2+1)).bind fun v6 =>
 some (.inl (v6,l5)))
 else
 some (.inr v3)
def bM.j1 (v13:Int) (v17:Bool):Option ((Int)⊕((Unit)⊕(Bool))) :=
 bif v17 then
 some (.inr (.inr false))
 else
 ((z64 (v13+1)).bind fun v18 =>
 some (.inl v18))
def bM.b2 (r1:ff) (v7:LB) (v13:Int):Option ((Int)⊕((Unit)⊕(Bool))) :=
 bif (ltZ v13 (r1.2.2.2.2.1.length:Int)) then
 ((idx r1.2.2.2.2.1 v13).bind fun v14 =>
 ((eL v14.2).bind fun l15 =>
 bif (!l15) then
  some true
 else
  ((cF v14.2 v7).bind fun s16 =>
  some s16)).bind fun x =>
 bM.j1 v13 x)
 else
 some (.inr (.inl ()))
def bM.j2 (r1:ff) (v7:LB):Option Bool :=
 (cg r1.2.2.2.1 v7).bind fun n19 =>
 bif n19 then
 some false
 else
 ((cB r1.2.2.2.2.2.2).bind fun p20 =>
 some (eqZ p20.2 0))
def bM.j3 (r1:ff) (v7:LB) (v12:Bool):Option Bool :=
 bif v12 then
 some false
 else
 ((bS (fun x=>bM.b2 r1 v7 x) 0).bind fun x=>match x with
 | .inl x =>
  bM.j2 r1 v7
 | .inr r=>some r)
def bM.j4 (r1:ff) (v7:LB):Option Bool :=
 ((bj r1.1).bind fun r8 =>
 bif (!r8) then
 some true
 else
 ((cA r1.2.1).bind fun r9 =>
 bif (!r9) then
  some true
 else
  (bif (ltZ 8000 (r1.2.2.1.length:Int)) then
  some true
  else
  ((eL v7).bind fun l10 =>
  bif (!l10) then
   some true
  else
   (bif (ltZ 30 (r1.2.2.2.1.length:Int)) then
   some true
   else
   ((eL r1.2.2.2.2.2.1).bind fun l11 =>
   some (!l11))))))).bind fun x =>
 bM.j3 r1 v7 x
def bM (r1:ff):Option Bool :=
 (bS (fun x=>bM.b1 r1 x.1 x.2) (0,[])).bind fun x =>
 bM.j4 r1 x
def gT (c1:Int):Option Bool :=
 bif (leZ 97 c1) then
 some (leZ c1 122)
 else
 some false
def kA (c1:Int):Option Bool :=
 bif (leZ 48 c1) then
 some (leZ c1 57)
 else
 some false
def jM (c1:Int):Option Bool :=
 (gT c1).bind fun l2 =>
 bif l2 then
 some true
 else
 ((kA c1).bind fun d3 =>
 some d3)
def gg.j1 (n2:Int) (v5:Bool):Option ((Int)⊕(Int)) :=
 bif v5 then
 ((z64 (n2+1)).bind fun v6 =>
 some (.inl v6))
 else
 some (.inr n2)
def gg.b1 (s1:Bs) (n2:Int):Option ((Int)⊕(Int)) :=
 (bif (ltZ n2 (s1.length:Int)) then
 ((bAt s1 n2).bind fun c3 =>
 (jM c3).bind fun v'4 =>
 some v'4)
 else
 some false).bind fun x =>
 gg.j1 n2 x
def gg (s1:Bs):Option Int :=
 bS (fun x=>gg.b1 s1 x) 0
def iq.j1 (s1:Bs) (v4:Bool):Option Bool :=
 bif v4 then
 some false
 else
 ((gg s1).bind fun s5 =>
 some (eqZ s5 (s1.length:Int)))
def iq (s1:Bs):Option Bool :=
 (bif (decide (s1=([]:Bs))) then
 some true
 else
 ((bAt s1 0).bind fun c2 =>
 (gT c2).bind fun l3 =>
 bif (!l3) then
  some true
 else
  some (ltZ 20 (s1.length:Int)))).bind fun x =>
 iq.j1 s1 x
def strings_Contains (s:Bs) (sub:Bs):Option Bool:=nN s sub
def dI (s1:Bs):Option Bool :=
 (iq s1).bind fun w2 =>
 bif w2 then
 ((cat? ([32]:Bs) s1).bind fun s3 =>
 (cat? s3 ([32]:Bs)).bind fun s4 =>
 (strings_Contains ([32,97,110,100,32,98,97,99,107,32,98,111,111,108,32,99,108,111,99,107,32,101,108,115,101,32,102,97,108,115,101,32,102,105,108,101,115,32,102,110,32,102,111,114,119,97,114,100,32,103,101,116,32,105,102,32,105,110,32,105,110,116,32,108,101,116,32,109,111,100,117,108,101,32,109,111,118,101,32,110,101,116,32,110,111,116,32,111,114,32,112,117,98,32,115,101,99,114,101,116,115,32,115,101,116,32,116,104,101,110,32,116,114,117,101,32,117,115,101,32,118,97,114,32]:Bs) s4).bind fun c5 =>
 some (!c5))
 else
 some false
def dJ.j1 (e1:Int) (e2:Int) (e3:Bs) (e4:Bs) (e5:LB) (e6:LE) (v9:Bool):Option (fq×Int) :=
 bif v9 then
 some ((e1,0,e3,([]:Bs),[],(e6.map (Umk 1))),1)
 else
 (bif (eqZ e1 16) then
  some ((e1,e2,([]:Bs),([]:Bs),[],(e6.map (Umk 1))),1)
 else
  (bif (eqZ e1 10) then
  some ((e1,0,([]:Bs),([]:Bs),[],(e6.map (Umk 1))),1)
  else
  (bif (eqZ e1 12) then
   some ((e1,0,e3,([]:Bs),[],(e6.map (Umk 1))),2)
  else
   (bif (eqZ e1 11) then
   some ((e1,0,([]:Bs),([]:Bs),[],(e6.map (Umk 1))),3)
   else
   (bif (eqZ e1 13) then
    some ((e1,0,([]:Bs),([]:Bs),e5,(e6.map (Umk 1))),(e5.length:Int))
   else
    (bif (eqZ e1 15) then
    some ((e1,0,e3,e4,[],(e6.map (Umk 1))),(-1))
    else
    some ((e1,0,([]:Bs),([]:Bs),[],(e6.map (Umk 1))),2)))))))
def dJ.j2 (e1:Int) (e2:Int) (e3:Bs) (e4:Bs) (e5:LB) (e6:LE) (v8:Bool):Option (fq×Int) :=
 bif v8 then
 some ((e1,0,e3,([]:Bs),[],(e6.map (Umk 1))),0)
 else
 ((bif (eqZ e1 18) then
  some (eqZ e1 18)
 else
  some (eqZ e1 14)).bind fun x =>
 dJ.j1 e1 e2 e3 e4 e5 e6 x)
def dJ.j3 (e1:Int) (e2:Int) (e3:Bs) (e4:Bs) (e5:LB) (e6:LE) (v7:Bool):Option (fq×Int) :=
 bif v7 then
 some ((e1,e2,([]:Bs),([]:Bs),[],(e6.map (Umk 1))),0)
 else
 ((bif (eqZ e1 2) then
  some (eqZ e1 2)
 else
  some (eqZ e1 17)).bind fun x =>
 dJ.j2 e1 e2 e3 e4 e5 e6 x)
def dJ (e1:Int) (e2:Int) (e3:Bs) (e4:Bs) (e5:LB) (e6:LE):Option (fq×Int) :=
 (bif (eqZ e1 0) then
 some (eqZ e1 0)
 else
 some (eqZ e1 1)).bind fun x =>
 dJ.j3 e1 e2 e3 e4 e5 e6 x
def dK.j1 (v11:Int) (v16:Bool):Option ((Int)⊕(Bool)) :=
 bif v16 then
 some (.inr false)
 else
 ((z64 (v11+1)).bind fun v17 =>
 some (.inl v17))
def dK.b1 (e5:LB) (v11:Int):Option ((Int)⊕(Bool)) :=
 bif (ltZ v11 (e5.length:Int)) then
 ((idx e5 v11).bind fun v12 =>
 ((dI v12).bind fun n13 =>
 bif (!n13) then
  some true
 else
  (bif (ltZ 0 v11) then
  ((z64 (v11-1)).bind fun v14 =>
  (idx e5 v14).bind fun v15 =>
  some (Op.bytesLess v12 v15 || decide (v12=v15)))
  else
  some false)).bind fun x =>
 dK.j1 v11 x)
 else
 some (.inr (leZ (e5.length:Int) 8))
def dK.j2 (e1:Int) (e3:Bs) (e4:Bs) (e5:LB) (e6:LE) (v7:Bool):Option Bool :=
 bif v7 then
 ((dI e3).bind fun n8 =>
 some n8)
 else
 (bif (eqZ e1 15) then
  ((dI e3).bind fun n9 =>
  bif n9 then
  (bif (decide (e4=([]:Bs))) then
   some (leZ (e6.length:Int) 6)
  else
   ((dI e4).bind fun n10 =>
   bif n10 then
   some (leZ (e6.length:Int) 6)
   else
   some false))
  else
  some false)
 else
  (bif (eqZ e1 13) then
  (bS (fun x=>dK.b1 e5 x) 0)
  else
  some true))
def dK (e1:Int) (e2:Int) (e3:Bs) (e4:Bs) (e5:LB) (e6:LE):Option Bool :=
 bif (eqZ e1 0) then
 (bif (leZ 0 e2) then
  some (leZ e2 1099511627776)
 else
  some false)
 else
 (bif (eqZ e1 1) then
  (bif (eqZ e2 0) then
  some true
  else
  some (eqZ e2 1))
 else
  (bif (eqZ e1 16) then
  (bif (eqZ e2 1) then
   some true
  else
   (bif (eqZ e2 2) then
   some true
   else
   (bif (eqZ e2 4) then
    some true
   else
    some (eqZ e2 8))))
  else
  ((bif (eqZ e1 2) then
   some (eqZ e1 2)
  else
   (bif (eqZ e1 17) then
   some (eqZ e1 17)
   else
   (bif (eqZ e1 18) then
    some (eqZ e1 18)
   else
    (bif (eqZ e1 14) then
    some (eqZ e1 14)
    else
    some (eqZ e1 12))))).bind fun x =>
  dK.j2 e1 e3 e4 e5 e6 x)))
def aU.b1 (Gr:Gr5) (e6:LE) (depth7:Int) (v13:Int):Option ((Int)⊕(Bool)) :=
 bif (ltZ v13 (e6.length:Int)) then
 ((idx e6 v13).bind fun v14 =>
 (z64 (depth7-1)).bind fun v15 =>
 (Gr v14.1 v14.2.1 v14.2.2.1 v14.2.2.2.1 v14.2.2.2.2.1 (v14.2.2.2.2.2.map (Uun 1)) v15).bind fun r16 =>
 bif (!r16) then
  some (.inr false)
 else
  ((z64 (v13+1)).bind fun v17 =>
  some (.inl v17)))
 else
 some (.inr true)
def aU.j1 (Gr:Gr5) (e6:LE) (depth7:Int) (v12:Bool):Option Bool :=
 bif v12 then
 some false
 else
 (bS (fun x=>aU.b1 Gr e6 depth7 x) 0)
def aU.j2 (Gr:Gr5) (e1:Int) (e2:Int) (e3:Bs) (e4:Bs) (e5:LB) (e6:LE) (depth7:Int) (v8:Bool):Option Bool :=
 bif v8 then
 some false
 else
 ((dJ e1 e2 e3 e4 e5 e6).bind fun c9 =>
 (bif (leZ 0 c9.2) then
  (bif (!eqZ c9.2 (e6.length:Int)) then
  some true
  else
  (bif (!eqZ c9.1.2.1 e2) then
   some true
  else
   (bif (!decide (c9.1.2.2.1=e3)) then
   some true
   else
   (bif (!decide (c9.1.2.2.2.1=e4)) then
    some true
   else
    (bif (!eqZ (c9.1.2.2.2.2.1.length:Int) (e5.length:Int)) then
    some true
    else
    ((dK e1 e2 e3 e4 e5 e6).bind fun l10 =>
    some (!l10)))))))
 else
  (bif (!eqZ c9.1.2.1 e2) then
  some true
  else
  (bif (!decide (c9.1.2.2.1=e3)) then
   some true
  else
   (bif (!decide (c9.1.2.2.2.1=e4)) then
   some true
   else
   (bif (!eqZ (c9.1.2.2.2.2.1.length:Int) (e5.length:Int)) then
    some true
   else
    ((dK e1 e2 e3 e4 e5 e6).bind fun l11 =>
    some (!l11))))))).bind fun x =>
 aU.j1 Gr e6 depth7 x)
def aU.body (Gr:Gr5) (e1:Int) (e2:Int) (e3:Bs) (e4:Bs) (e5:LB) (e6:LE) (depth7:Int):Option Bool :=
 (bif (eqZ depth7 0) then
 some true
 else
 (bif (ltZ e1 0) then
  some true
 else
  some (leZ 19 e1))).bind fun x =>
 aU.j2 Gr e1 e2 e3 e4 e5 e6 depth7 x
def aU.rec:Nat->Int->Int->Bs->Bs->LB->LE->Int->Option Bool
 | 0=>fun _ _ _ _ _ _ _=>none
 | n+1=>aU.body (aU.rec n)
def aU (e1:Int) (e2:Int) (e3:Bs) (e4:Bs) (e5:LB) (e6:LE) (depth7:Int):Option Bool:=aU.rec Fuel.n e1 e2 e3 e4 e5 e6 depth7
def dc (e1:Int) (e2:Int) (e3:Bs) (e4:Bs) (e5:LB) (e6:LE):Option Bool :=
 (aU e1 e2 e3 e4 e5 e6 12).bind fun r7 =>
 some r7
def iV (a1:kS):Option Bool :=
 bif (leZ 0 a1.1) then
 (bif (leZ a1.1 1073741824) then
  ((bj a1.2.1).bind fun r2 =>
  bif r2 then
  ((dd a1.2.2.1).bind fun p3 =>
  bif p3 then
   ((dI a1.2.2.2.1).bind fun n4 =>
   bif n4 then
   ((dc a1.2.2.2.2.1 a1.2.2.2.2.2.1 a1.2.2.2.2.2.2.1 a1.2.2.2.2.2.2.2.1 a1.2.2.2.2.2.2.2.2.1 (a1.2.2.2.2.2.2.2.2.2.map (Uun 1))).bind fun r5 =>
   some r5)
   else
   some false)
  else
   some false)
  else
  some false)
 else
  some false)
 else
 some false
def eZ.j1 (v2:Int) (v6:Bool):Option ((Int)⊕((Unit)⊕(Bool))) :=
 bif v6 then
 some (.inr (.inr false))
 else
 ((z64 (v2+1)).bind fun v7 =>
 some (.inl v7))
def eZ.b1 (f1:bX) (v2:Int):Option ((Int)⊕((Unit)⊕(Bool))) :=
 bif (ltZ v2 (f1.2.2.2.2.2.1.length:Int)) then
 ((idx f1.2.2.2.2.2.1 v2).bind fun v3 =>
 (bif (ltZ v3 0) then
  some true
 else
  (bif (leZ 200 v3) then
  some true
  else
  (bif (ltZ 0 v2) then
   ((z64 (v2-1)).bind fun v4 =>
   (idx f1.2.2.2.2.2.1 v4).bind fun v5 =>
   some (leZ v3 v5))
  else
   some false))).bind fun x =>
 eZ.j1 v2 x)
 else
 some (.inr (.inl ()))
def eZ.j2 (f1:bX):Option Bool :=
 bif (leZ (f1.2.2.2.2.2.1.length:Int) 12) then
 (bif (leZ 1 f1.2.2.2.2.2.2.1) then
  some (leZ f1.2.2.2.2.2.2.1 (f1.2.2.2.2.2.1.length:Int))
 else
  some false)
 else
 some false
def eZ (f1:bX):Option Bool :=
 (bS (fun x=>eZ.b1 f1 x) 0).bind fun x=>match x with
 | .inl x =>
 eZ.j2 f1
 | .inr r=>some r
def aP.b1 (s1'1:LB) (s2'2:LB) (v3:Int):Option ((Int)⊕(Bool)) :=
 bif (ltZ v3 (s1'1.length:Int)) then
 ((idx s1'1 v3).bind fun v4 =>
 (idx s2'2 v3).bind fun v5 =>
 bif (!decide (v4=v5)) then
  some (.inr false)
 else
  ((z64 (v3+1)).bind fun v6 =>
  some (.inl v6)))
 else
 some (.inr true)
def aP (s1'1:LB) (s2'2:LB):Option Bool :=
 bif (!eqZ (s1'1.length:Int) (s2'2.length:Int)) then
 some false
 else
 (bS (fun x=>aP.b1 s1'1 s2'2 x) 0)
def aR.b1 (Gr:Gr3) (s1'1:LE) (s2'2:LE) (v3:Int):Option ((Int)⊕(Bool)) :=
 bif (ltZ v3 (s1'1.length:Int)) then
 ((idx s1'1 v3).bind fun v4 =>
 (idx s2'2 v3).bind fun v5 =>
 (Gr v4.1 v4.2.1 v4.2.2.1 v4.2.2.2.1 v4.2.2.2.2.1 (v4.2.2.2.2.2.map (Uun 1)) v5.1 v5.2.1 v5.2.2.1 v5.2.2.2.1 v5.2.2.2.2.1 (v5.2.2.2.2.2.map (Uun 1))).bind fun s6 =>
 bif (!s6) then
  some (.inr false)
 else
  ((z64 (v3+1)).bind fun v7 =>
  some (.inl v7)))
 else
 some (.inr true)
def aR (Gr:Gr3) (s1'1:LE) (s2'2:LE):Option Bool :=
 bif (!eqZ (s1'1.length:Int) (s2'2.length:Int)) then
 some false
 else
 (bS (fun x=>aR.b1 Gr s1'1 s2'2 x) 0)
def bY.body (Gr:Gr3) (a1:Int) (a2:Int) (a3:Bs) (a4:Bs) (a5:LB) (a6:LE) (b7:Int) (b8:Int) (b9:Bs) (b10:Bs) (b11:LB) (b12:LE):Option Bool :=
 bif (eqZ a1 b7) then
 (bif (eqZ a2 b8) then
  (bif (decide (a3=b9)) then
  (bif (decide (a4=b10)) then
   ((aP a5 b11).bind fun s13 =>
   bif s13 then
   ((aR Gr a6 b12).bind fun e14 =>
   some e14)
   else
   some false)
  else
   some false)
  else
  some false)
 else
  some false)
 else
 some false
def bY.rec:Nat->Int->Int->Bs->Bs->LB->LE->Int->Int->Bs->Bs->LB->LE->Option Bool
 | 0=>fun _ _ _ _ _ _ _ _ _ _ _ _=>none
 | n+1=>bY.body (bY.rec n)
def bY (a1:Int) (a2:Int) (a3:Bs) (a4:Bs) (a5:LB) (a6:LE) (b7:Int) (b8:Int) (b9:Bs) (b10:Bs) (b11:LB) (b12:LE):Option Bool:=bY.rec Fuel.n a1 a2 a3 a4 a5 a6 b7 b8 b9 b10 b11 b12
def ey (x1:jG) (y2:jG):Option Bool :=
 bif (decide (x1.1=y2.1)) then
 (bif (eqZ x1.2.2.1 y2.2.2.1) then
  (bif (decide (x1.2.2.2.1=y2.2.2.2.1)) then
  ((aH x1.2.1 y2.2.1).bind fun r3 =>
  bif r3 then
   ((aP x1.2.2.2.2 y2.2.2.2.2).bind fun s4 =>
   some s4)
  else
   some false)
  else
  some false)
 else
  some false)
 else
 some false
def aI.b1 (s1'1:List jG) (s2'2:List jG) (v3:Int):Option ((Int)⊕(Bool)) :=
 bif (ltZ v3 (s1'1.length:Int)) then
 ((idx s1'1 v3).bind fun v4 =>
 (idx s2'2 v3).bind fun v5 =>
 (ey v4 v5).bind fun v'6 =>
 bif (!v'6) then
  some (.inr false)
 else
  ((z64 (v3+1)).bind fun v7 =>
  some (.inl v7)))
 else
 some (.inr true)
def aI (s1'1:List jG) (s2'2:List jG):Option Bool :=
 bif (!eqZ (s1'1.length:Int) (s2'2.length:Int)) then
 some false
 else
 (bS (fun x=>aI.b1 s1'1 s2'2 x) 0)
def eA (x1:im) (y2:im):Option Bool :=
 bif (decide (x1.1=y2.1)) then
 ((aP x1.2 y2.2).bind fun s3 =>
 some s3)
 else
 some false
def az.b1 (s1'1:List im) (s2'2:List im) (v3:Int):Option ((Int)⊕(Bool)) :=
 bif (ltZ v3 (s1'1.length:Int)) then
 ((idx s1'1 v3).bind fun v4 =>
 (idx s2'2 v3).bind fun v5 =>
 (eA v4 v5).bind fun v'6 =>
 bif (!v'6) then
  some (.inr false)
 else
  ((z64 (v3+1)).bind fun v7 =>
  some (.inl v7)))
 else
 some (.inr true)
def az (s1'1:List im) (s2'2:List im):Option Bool :=
 bif (!eqZ (s1'1.length:Int) (s2'2.length:Int)) then
 some false
 else
 (bS (fun x=>az.b1 s1'1 s2'2 x) 0)
def fA (a1:ff) (b2:ff):Option Bool :=
 (aI a1.2.2.2.1 b2.2.2.2.1).bind fun n3 =>
 (az a1.2.2.2.2.1 b2.2.2.2.2.1).bind fun f4 =>
 bif n3 then
 (bif f4 then
  (bif (decide (a1.1=b2.1)) then
  (bif ((eqZ a1.2.1.1 b2.2.1.1 && (eqZ a1.2.1.2.1 b2.2.1.2.1 && eqZ a1.2.1.2.2 b2.2.1.2.2))) then
   (bif (decide (a1.2.2.1=b2.2.2.1)) then
   ((aP a1.2.2.2.2.2.1 b2.2.2.2.2.2.1).bind fun s5 =>
   bif s5 then
    some (decide (a1.2.2.2.2.2.2=b2.2.2.2.2.2.2))
   else
    some false)
   else
   some false)
  else
   some false)
  else
  some false)
 else
  some false)
 else
 some false
def dk.b1 (s1'1:LI) (s2'2:LI) (v3:Int):Option ((Int)⊕(Bool)) :=
 bif (ltZ v3 (s1'1.length:Int)) then
 ((idx s1'1 v3).bind fun v4 =>
 (idx s2'2 v3).bind fun v5 =>
 bif (!eqZ v4 v5) then
  some (.inr false)
 else
  ((z64 (v3+1)).bind fun v6 =>
  some (.inl v6)))
 else
 some (.inr true)
def dk (s1'1:LI) (s2'2:LI):Option Bool :=
 bif (!eqZ (s1'1.length:Int) (s2'2.length:Int)) then
 some false
 else
 (bS (fun x=>dk.b1 s1'1 s2'2 x) 0)
def iK.j1 (a1:bX) (b2:bX) (advices5:Bool):Option Bool :=
 bif advices5 then
 ((fA a1.2.2.2.1 b2.2.2.2.1).bind fun s6 =>
 bif s6 then
  (bif (eqZ a1.1 b2.1) then
  (bif (decide (a1.2.1=b2.2.1)) then
   (bif ((eqZ a1.2.2.1.1 b2.2.2.1.1 && (eqZ a1.2.2.1.2.1 b2.2.2.1.2.1 && eqZ a1.2.2.1.2.2 b2.2.2.1.2.2))) then
   ((dk a1.2.2.2.2.2.1 b2.2.2.2.2.2.1).bind fun i7 =>
   bif i7 then
    (bif (eqZ a1.2.2.2.2.2.2.1 b2.2.2.2.2.2.2.1) then
    (bif (eqZ a1.2.2.2.2.2.2.2.1 b2.2.2.2.2.2.2.2.1) then
     (bif (eqZ a1.2.2.2.2.2.2.2.2.1 b2.2.2.2.2.2.2.2.2.1) then
     some (eqZ a1.2.2.2.2.2.2.2.2.2 b2.2.2.2.2.2.2.2.2.2)
     else
     some false)
    else
     some false)
    else
    some false)
   else
    some false)
   else
   some false)
  else
   some false)
  else
  some false)
 else
  some false)
 else
 some false
def iK (a1:bX) (b2:bX):Option Bool :=
 (bif (eqZ a1.2.2.2.2.1.1 b2.2.2.2.2.1.1) then
 (bif (decide (a1.2.2.2.2.1.2.1=b2.2.2.2.2.1.2.1)) then
  ((aH a1.2.2.2.2.1.2.2.1 b2.2.2.2.2.1.2.2.1).bind fun r3 =>
  bif r3 then
  (bif (decide (a1.2.2.2.2.1.2.2.2.1=b2.2.2.2.2.1.2.2.2.1)) then
   ((bY a1.2.2.2.2.1.2.2.2.2.1 a1.2.2.2.2.1.2.2.2.2.2.1 a1.2.2.2.2.1.2.2.2.2.2.2.1 a1.2.2.2.2.1.2.2.2.2.2.2.2.1 a1.2.2.2.2.1.2.2.2.2.2.2.2.2.1 (a1.2.2.2.2.1.2.2.2.2.2.2.2.2.2.map (Uun 1)) b2.2.2.2.2.1.2.2.2.2.1 b2.2.2.2.2.1.2.2.2.2.2.1 b2.2.2.2.2.1.2.2.2.2.2.2.1 b2.2.2.2.2.1.2.2.2.2.2.2.2.1 b2.2.2.2.2.1.2.2.2.2.2.2.2.2.1 (b2.2.2.2.2.1.2.2.2.2.2.2.2.2.2.map (Uun 1))).bind fun s4 =>
   some s4)
  else
   some false)
  else
  some false)
 else
  some false)
 else
 some false).bind fun x =>
 iK.j1 a1 b2 x
def bV.j1 (f1:bX) (ok2:Bool) (v8:Bool):Option ((Bool×Int×Bs×Int×Int×Int×Bs×Int×Int×Int×Bs×(List jG)×(List im)×LB×Bs×Int×Bs×(List bB)×Bs×Int×Int×Bs×Bs×LB×LE×LI×Int×Int×Int×Int)⊕(Bool)) :=
 bif v8 then
 (bif ok2 then
  ((bj f1.2.1).bind fun r9 =>
  bif r9 then
  ((eZ (IF f1)).bind fun k10 =>
  bif k10 then
   (bif (eqZ f1.2.2.2.2.2.2.2.1 0) then
   some (.inl (true,f1.1,f1.2.1,0,0,0,([]:Bs),0,0,0,([]:Bs),[],[],[],([]:Bs),0,([]:Bs),[],([]:Bs),0,0,([]:Bs),([]:Bs),[],[],f1.2.2.2.2.2.1,f1.2.2.2.2.2.2.1,f1.2.2.2.2.2.2.2.1,0,f1.2.2.2.2.2.2.2.2.2))
   else
   (bif (eqZ f1.1 6) then
    (bif (leZ 0 f1.2.2.2.2.2.2.2.1) then
    some (.inl ((leZ f1.2.2.2.2.2.2.2.1 200000),f1.1,f1.2.1,0,0,0,([]:Bs),0,0,0,([]:Bs),[],[],[],([]:Bs),0,([]:Bs),[],([]:Bs),0,0,([]:Bs),([]:Bs),[],[],f1.2.2.2.2.2.1,f1.2.2.2.2.2.2.1,f1.2.2.2.2.2.2.2.1,0,f1.2.2.2.2.2.2.2.2.2))
    else
    some (.inl (false,f1.1,f1.2.1,0,0,0,([]:Bs),0,0,0,([]:Bs),[],[],[],([]:Bs),0,([]:Bs),[],([]:Bs),0,0,([]:Bs),([]:Bs),[],[],f1.2.2.2.2.2.1,f1.2.2.2.2.2.2.1,f1.2.2.2.2.2.2.2.1,0,f1.2.2.2.2.2.2.2.2.2)))
   else
    some (.inl (false,f1.1,f1.2.1,0,0,0,([]:Bs),0,0,0,([]:Bs),[],[],[],([]:Bs),0,([]:Bs),[],([]:Bs),0,0,([]:Bs),([]:Bs),[],[],f1.2.2.2.2.2.1,f1.2.2.2.2.2.2.1,f1.2.2.2.2.2.2.2.1,0,f1.2.2.2.2.2.2.2.2.2))))
  else
   some (.inl (false,f1.1,f1.2.1,0,0,0,([]:Bs),0,0,0,([]:Bs),[],[],[],([]:Bs),0,([]:Bs),[],([]:Bs),0,0,([]:Bs),([]:Bs),[],[],f1.2.2.2.2.2.1,f1.2.2.2.2.2.2.1,f1.2.2.2.2.2.2.2.1,0,f1.2.2.2.2.2.2.2.2.2)))
  else
  some (.inl (false,f1.1,f1.2.1,0,0,0,([]:Bs),0,0,0,([]:Bs),[],[],[],([]:Bs),0,([]:Bs),[],([]:Bs),0,0,([]:Bs),([]:Bs),[],[],f1.2.2.2.2.2.1,f1.2.2.2.2.2.2.1,f1.2.2.2.2.2.2.2.1,0,f1.2.2.2.2.2.2.2.2.2)))
 else
  some (.inl (false,f1.1,f1.2.1,0,0,0,([]:Bs),0,0,0,([]:Bs),[],[],[],([]:Bs),0,([]:Bs),[],([]:Bs),0,0,([]:Bs),([]:Bs),[],[],f1.2.2.2.2.2.1,f1.2.2.2.2.2.2.1,f1.2.2.2.2.2.2.2.1,0,f1.2.2.2.2.2.2.2.2.2)))
 else
 (bif (eqZ f1.1 7) then
  (bif ok2 then
  ((bj f1.2.1).bind fun r11 =>
  bif r11 then
   ((cA f1.2.2.1).bind fun r12 =>
   bif r12 then
   (bif (leZ 0 f1.2.2.2.2.2.2.2.2.1) then
    some (.inl ((leZ f1.2.2.2.2.2.2.2.2.1 1073741824),f1.1,f1.2.1,f1.2.2.1.1,f1.2.2.1.2.1,f1.2.2.1.2.2,([]:Bs),0,0,0,([]:Bs),[],[],[],([]:Bs),0,([]:Bs),[],([]:Bs),0,0,([]:Bs),([]:Bs),[],[],[],0,0,f1.2.2.2.2.2.2.2.2.1,f1.2.2.2.2.2.2.2.2.2))
   else
    some (.inl (false,f1.1,f1.2.1,f1.2.2.1.1,f1.2.2.1.2.1,f1.2.2.1.2.2,([]:Bs),0,0,0,([]:Bs),[],[],[],([]:Bs),0,([]:Bs),[],([]:Bs),0,0,([]:Bs),([]:Bs),[],[],[],0,0,f1.2.2.2.2.2.2.2.2.1,f1.2.2.2.2.2.2.2.2.2)))
   else
   some (.inl (false,f1.1,f1.2.1,f1.2.2.1.1,f1.2.2.1.2.1,f1.2.2.1.2.2,([]:Bs),0,0,0,([]:Bs),[],[],[],([]:Bs),0,([]:Bs),[],([]:Bs),0,0,([]:Bs),([]:Bs),[],[],[],0,0,f1.2.2.2.2.2.2.2.2.1,f1.2.2.2.2.2.2.2.2.2)))
  else
   some (.inl (false,f1.1,f1.2.1,f1.2.2.1.1,f1.2.2.1.2.1,f1.2.2.1.2.2,([]:Bs),0,0,0,([]:Bs),[],[],[],([]:Bs),0,([]:Bs),[],([]:Bs),0,0,([]:Bs),([]:Bs),[],[],[],0,0,f1.2.2.2.2.2.2.2.2.1,f1.2.2.2.2.2.2.2.2.2)))
  else
  some (.inl (false,f1.1,f1.2.1,f1.2.2.1.1,f1.2.2.1.2.1,f1.2.2.1.2.2,([]:Bs),0,0,0,([]:Bs),[],[],[],([]:Bs),0,([]:Bs),[],([]:Bs),0,0,([]:Bs),([]:Bs),[],[],[],0,0,f1.2.2.2.2.2.2.2.2.1,f1.2.2.2.2.2.2.2.2.2)))
 else
  some (.inr false))
def bV.j2 (f1:bX) (ok2:Bool) (v4:Bool):Option ((Bool×Int×Bs×Int×Int×Int×Bs×Int×Int×Int×Bs×(List jG)×(List im)×LB×Bs×Int×Bs×(List bB)×Bs×Int×Int×Bs×Bs×LB×LE×LI×Int×Int×Int×Int)⊕(Bool)) :=
 bif v4 then
 (bif ok2 then
  ((bj f1.2.1).bind fun r5 =>
  bif r5 then
  ((cA f1.2.2.1).bind fun r6 =>
  some (.inl (r6,f1.1,f1.2.1,f1.2.2.1.1,f1.2.2.1.2.1,f1.2.2.1.2.2,([]:Bs),0,0,0,([]:Bs),[],[],[],([]:Bs),0,([]:Bs),[],([]:Bs),0,0,([]:Bs),([]:Bs),[],[],[],0,0,0,f1.2.2.2.2.2.2.2.2.2)))
  else
  some (.inl (false,f1.1,f1.2.1,f1.2.2.1.1,f1.2.2.1.2.1,f1.2.2.1.2.2,([]:Bs),0,0,0,([]:Bs),[],[],[],([]:Bs),0,([]:Bs),[],([]:Bs),0,0,([]:Bs),([]:Bs),[],[],[],0,0,0,f1.2.2.2.2.2.2.2.2.2)))
 else
  some (.inl (false,f1.1,f1.2.1,f1.2.2.1.1,f1.2.2.1.2.1,f1.2.2.1.2.2,([]:Bs),0,0,0,([]:Bs),[],[],[],([]:Bs),0,([]:Bs),[],([]:Bs),0,0,([]:Bs),([]:Bs),[],[],[],0,0,0,f1.2.2.2.2.2.2.2.2.2)))
 else
 (bif (eqZ f1.1 3) then
  (bif ok2 then
  ((iV (IA f1.2.2.2.2.1)).bind fun a7 =>
  some (.inl (a7,f1.1,([]:Bs),0,0,0,([]:Bs),0,0,0,([]:Bs),[],[],[],([]:Bs),f1.2.2.2.2.1.1,f1.2.2.2.2.1.2.1,f1.2.2.2.2.1.2.2.1,f1.2.2.2.2.1.2.2.2.1,f1.2.2.2.2.1.2.2.2.2.1,f1.2.2.2.2.1.2.2.2.2.2.1,f1.2.2.2.2.1.2.2.2.2.2.2.1,f1.2.2.2.2.1.2.2.2.2.2.2.2.1,f1.2.2.2.2.1.2.2.2.2.2.2.2.2.1,(f1.2.2.2.2.1.2.2.2.2.2.2.2.2.2.map (Uun 1)),[],0,0,0,f1.2.2.2.2.2.2.2.2.2)))
  else
  some (.inl (false,f1.1,([]:Bs),0,0,0,([]:Bs),0,0,0,([]:Bs),[],[],[],([]:Bs),f1.2.2.2.2.1.1,f1.2.2.2.2.1.2.1,f1.2.2.2.2.1.2.2.1,f1.2.2.2.2.1.2.2.2.1,f1.2.2.2.2.1.2.2.2.2.1,f1.2.2.2.2.1.2.2.2.2.2.1,f1.2.2.2.2.1.2.2.2.2.2.2.1,f1.2.2.2.2.1.2.2.2.2.2.2.2.1,f1.2.2.2.2.1.2.2.2.2.2.2.2.2.1,(f1.2.2.2.2.1.2.2.2.2.2.2.2.2.2.map (Uun 1)),[],0,0,0,f1.2.2.2.2.2.2.2.2.2)))
 else
  ((bif (eqZ f1.1 4) then
  some (eqZ f1.1 4)
  else
  (bif (eqZ f1.1 5) then
   some (eqZ f1.1 5)
  else
   some (eqZ f1.1 6))).bind fun x =>
  bV.j1 f1 ok2 x))
def bV.j3 (f1:bX) (ok13:Bool) (only14:Int) (only15:Bs) (only16:Int) (only17:Int) (only18:Int) (only19:Bs) (only20:Int) (only21:Int) (only22:Int) (only23:Bs) (only24:List jG) (only25:List im) (only26:LB) (only27:Bs) (only28:Int) (only29:Bs) (only30:List bB) (only31:Bs) (only32:Int) (only33:Int) (only34:Bs) (only35:Bs) (only36:LB) (only37:LE) (only38:LI) (only39:Int) (only40:Int) (only41:Int) (only42:Int):Option Bool :=
 bif ok13 then
 ((iK (IF f1) (only14,only15,(only16,only17,only18),(only19,(only20,only21,only22),only23,only24,only25,only26,only27),(only28,only29,only30,only31,only32,only33,only34,only35,only36,(only37.map (Umk 1))),only38,only39,only40,only41,only42)).bind fun s43 =>
 some s43)
 else
 some false
def bV.j4 (f1:bX) (ok2:Bool):Option Bool :=
 ((bif (eqZ f1.1 0) then
 (bif ok2 then
  ((bM f1.2.2.2.1).bind fun r3 =>
  some (.inl (r3,f1.1,([]:Bs),0,0,0,f1.2.2.2.1.1,f1.2.2.2.1.2.1.1,f1.2.2.2.1.2.1.2.1,f1.2.2.2.1.2.1.2.2,f1.2.2.2.1.2.2.1,f1.2.2.2.1.2.2.2.1,f1.2.2.2.1.2.2.2.2.1,f1.2.2.2.1.2.2.2.2.2.1,f1.2.2.2.1.2.2.2.2.2.2,0,([]:Bs),[],([]:Bs),0,0,([]:Bs),([]:Bs),[],[],[],0,0,0,f1.2.2.2.2.2.2.2.2.2)))
 else
  some (.inl (false,f1.1,([]:Bs),0,0,0,f1.2.2.2.1.1,f1.2.2.2.1.2.1.1,f1.2.2.2.1.2.1.2.1,f1.2.2.2.1.2.1.2.2,f1.2.2.2.1.2.2.1,f1.2.2.2.1.2.2.2.1,f1.2.2.2.1.2.2.2.2.1,f1.2.2.2.1.2.2.2.2.2.1,f1.2.2.2.1.2.2.2.2.2.2,0,([]:Bs),[],([]:Bs),0,0,([]:Bs),([]:Bs),[],[],[],0,0,0,f1.2.2.2.2.2.2.2.2.2)))
 else
 ((bif (eqZ f1.1 1) then
  some (eqZ f1.1 1)
 else
  some (eqZ f1.1 2)).bind fun x =>
 bV.j2 f1 ok2 x)):Option ((Bool×Int×Bs×Int×Int×Int×Bs×Int×Int×Int×Bs×(List jG)×(List im)×LB×Bs×Int×Bs×(List bB)×Bs×Int×Int×Bs×Bs×LB×LE×LI×Int×Int×Int×Int)⊕(Bool))).bind fun x=>match x with
 | .inl x =>
 bV.j3 f1 x.1 x.2.1 x.2.2.1 x.2.2.2.1 x.2.2.2.2.1 x.2.2.2.2.2.1 x.2.2.2.2.2.2.1 x.2.2.2.2.2.2.2.1 x.2.2.2.2.2.2.2.2.1 x.2.2.2.2.2.2.2.2.2.1 x.2.2.2.2.2.2.2.2.2.2.1 x.2.2.2.2.2.2.2.2.2.2.2.1 x.2.2.2.2.2.2.2.2.2.2.2.2.1 x.2.2.2.2.2.2.2.2.2.2.2.2.2.1 x.2.2.2.2.2.2.2.2.2.2.2.2.2.2.1 x.2.2.2.2.2.2.2.2.2.2.2.2.2.2.2.1 x.2.2.2.2.2.2.2.2.2.2.2.2.2.2.2.2.1 x.2.2.2.2.2.2.2.2.2.2.2.2.2.2.2.2.2.1 x.2.2.2.2.2.2.2.2.2.2.2.2.2.2.2.2.2.2.1 x.2.2.2.2.2.2.2.2.2.2.2.2.2.2.2.2.2.2.2.1 x.2.2.2.2.2.2.2.2.2.2.2.2.2.2.2.2.2.2.2.2.1 x.2.2.2.2.2.2.2.2.2.2.2.2.2.2.2.2.2.2.2.2.2.1 x.2.2.2.2.2.2.2.2.2.2.2.2.2.2.2.2.2.2.2.2.2.2.1 x.2.2.2.2.2.2.2.2.2.2.2.2.2.2.2.2.2.2.2.2.2.2.2.1 x.2.2.2.2.2.2.2.2.2.2.2.2.2.2.2.2.2.2.2.2.2.2.2.2.1 x.2.2.2.2.2.2.2.2.2.2.2.2.2.2.2.2.2.2.2.2.2.2.2.2.2.1 x.2.2.2.2.2.2.2.2.2.2.2.2.2.2.2.2.2.2.2.2.2.2.2.2.2.2.1 x.2.2.2.2.2.2.2.2.2.2.2.2.2.2.2.2.2.2.2.2.2.2.2.2.2.2.2.1 x.2.2.2.2.2.2.2.2.2.2.2.2.2.2.2.2.2.2.2.2.2.2.2.2.2.2.2.2.1 x.2.2.2.2.2.2.2.2.2.2.2.2.2.2.2.2.2.2.2.2.2.2.2.2.2.2.2.2.2
 | .inr r=>some r
def bV (f1:bX):Option Bool :=
 (bif (leZ 0 f1.2.2.2.2.2.2.2.2.2) then
 some (leZ f1.2.2.2.2.2.2.2.2.2 1073741824)
 else
 some false).bind fun x =>
 bV.j4 f1 x
def strconv_Itoa (n:Int):Option Bs:=EW n
def fG (p1:cZ):Option Bs :=
 (cA p1).bind fun r2 =>
 bif (!r2) then
 some ([]:Bs)
 else
 ((strconv_Itoa p1.1).bind fun i3 =>
 (cat? i3 ([46]:Bs)).bind fun s4 =>
 (strconv_Itoa p1.2.1).bind fun i5 =>
 (cat? s4 i5).bind fun s6 =>
 (cat? s6 ([46]:Bs)).bind fun s7 =>
 (strconv_Itoa p1.2.2).bind fun i8 =>
 (cat? s7 i8).bind fun s9 =>
 some s9)
def gh.j1 (f1:bX) (v7:Bool):Option Bs :=
 bif v7 then
 ((cat? ([121,97,110,107,32]:Bs) f1.2.1).bind fun s8 =>
 (cat? s8 ([32]:Bs)).bind fun s9 =>
 (fG f1.2.2.1).bind fun p10 =>
 (cat? s9 p10).bind fun s11 =>
 some s11)
 else
 (bif (eqZ f1.1 3) then
  ((cat? ([97,100,118,105,115,101,32]:Bs) f1.2.2.2.2.1.2.1).bind fun s12 =>
  some s12)
 else
  (bif (eqZ f1.1 7) then
  ((cat? ([98,117,105,108,100,32]:Bs) f1.2.1).bind fun s13 =>
  (cat? s13 ([32]:Bs)).bind fun s14 =>
  (fG f1.2.2.1).bind fun p15 =>
  (cat? s14 p15).bind fun s16 =>
  some s16)
  else
  ((cat? ([107,101,121,115,32]:Bs) f1.2.1).bind fun s17 =>
  some s17)))
def gh (f1:bX):Option Bs :=
 (bV (IF f1)).bind fun r2 =>
 bif (!r2) then
 some ([]:Bs)
 else
 (bif (eqZ f1.1 0) then
  ((cat? ([114,101,108,101,97,115,101,32]:Bs) f1.2.2.2.1.1).bind fun s3 =>
  (cat? s3 ([32]:Bs)).bind fun s4 =>
  (fG f1.2.2.2.1.2.1).bind fun p5 =>
  (cat? s4 p5).bind fun s6 =>
  some s6)
 else
  ((bif (eqZ f1.1 1) then
  some (eqZ f1.1 1)
  else
  some (eqZ f1.1 2)).bind fun x =>
  gh.j1 f1 x))
def cK (s1:Bs):Option Bs :=
 (strconv_Itoa (s1.length:Int)).bind fun i2 =>
 (cat? i2 ([58]:Bs)).bind fun s3 =>
 (cat? s3 s1).bind fun s4 =>
 (cat? s4 ([44]:Bs)).bind fun s5 =>
 some s5
def jr (n1:Int):Option Bs :=
 (strconv_Itoa n1).bind fun i2 =>
 (cat? i2 ([59]:Bs)).bind fun s3 =>
 some s3
def dm (n1:Int):Option Bs :=
 bif (ltZ n1 0) then
 some ([]:Bs)
 else
 ((jr n1).bind fun i2 =>
 some i2)
def ed (p1:cZ):Option Bs :=
 (dm p1.1).bind fun n2 =>
 (dm p1.2.1).bind fun n3 =>
 (cat? n2 n3).bind fun s4 =>
 (dm p1.2.2).bind fun n5 =>
 (cat? s4 n5).bind fun s6 =>
 some s6
def ep  : Option (Unit):=some ()
def bo (s1:Bs):Option (Int×LI) :=
 (ep).bind fun c2 =>
 (app? [] (bJ s1)).bind fun l3 =>
 some ((s1.length:Int),l3)
def eQ.b1 (l1:List bB) (s3:Bs) (v4:Int):Option ((Bs×Int)⊕(Bs)) :=
 bif (ltZ v4 (l1.length:Int)) then
 ((idx l1 v4).bind fun v5 =>
 (ed v5.1).bind fun n6 =>
 (ed v5.2).bind fun n7 =>
 (cat? n6 n7).bind fun s8 =>
 (cat? s3 s8).bind fun s9 =>
 (z64 (v4+1)).bind fun v10 =>
 some (.inl (s9,v10)))
 else
 some (.inr s3)
def eQ (l1:List bB):Option Bs :=
 (dm (l1.length:Int)).bind fun n2 =>
 bS (fun x=>eQ.b1 l1 x.1 x.2) (n2,0)
def dE (l:LI):Option LI:=some l
def aQ (s1:Bs) (p2:LI):Option (Int×LI) :=
 (dE p2).bind fun v3 =>
 (app? v3 (bJ s1)).bind fun l4 =>
 some ((s1.length:Int),l4)
def bR (l:LI):Option (Bs):=(qy l)
def cL.b1 (l1:LB) (v5:Int) (v6:LI):Option ((Int×LI)⊕LI) :=
 bif (ltZ v5 (l1.length:Int)) then
 ((idx l1 v5).bind fun v7 =>
 (cK v7).bind fun t8 =>
 (aQ t8 v6).bind fun v9 =>
 (z64 (v5+1)).bind fun v10 =>
 some (.inl (v10,v9.2)))
 else
 some (.inr v6)
def cL.j1 (v11:LI):Option Bs :=
 (bR v11).bind fun s12 =>
 (cat? s12 ([93]:Bs)).bind fun s13 =>
 some s13
def cL (l1:LB):Option Bs :=
 (strconv_Itoa (l1.length:Int)).bind fun i2 =>
 (cat? i2 ([91]:Bs)).bind fun s3 =>
 (bo s3).bind fun w4 =>
 (bS (fun x=>cL.b1 l1 x.1 x.2) (0,w4.2)).bind fun x =>
 cL.j1 x
def iw (l1:LB):Option Bs :=
 (cL l1).bind fun s2 =>
 some s2
def bI.b1 (r1:ff) (v10:Int) (v11:LI):Option ((Int×LI)⊕LI) :=
 bif (ltZ v10 (r1.2.2.2.1.length:Int)) then
 ((idx r1.2.2.2.1 v10).bind fun v12 =>
 (cK v12.1).bind fun t13 =>
 (dm v12.2.2.1).bind fun n14 =>
 (cat? t13 n14).bind fun s15 =>
 (cK v12.2.2.2.1).bind fun t16 =>
 (cat? s15 t16).bind fun s17 =>
 (eQ v12.2.1).bind fun r18 =>
 (cat? s17 r18).bind fun s19 =>
 (iw v12.2.2.2.2).bind fun t20 =>
 (cat? s19 t20).bind fun s21 =>
 (aQ s21 v11).bind fun v22 =>
 (z64 (v10+1)).bind fun v23 =>
 some (.inl (v23,v22.2)))
 else
 some (.inr v11)
def bI.b2 (r1:ff) (v27:Int) (v28:LI):Option ((Int×LI)⊕LI) :=
 bif (ltZ v27 (r1.2.2.2.2.1.length:Int)) then
 ((idx r1.2.2.2.2.1 v27).bind fun v29 =>
 (cK v29.1).bind fun t30 =>
 (iw v29.2).bind fun t31 =>
 (cat? t30 t31).bind fun s32 =>
 (aQ s32 v28).bind fun v33 =>
 (z64 (v27+1)).bind fun v34 =>
 some (.inl (v34,v33.2)))
 else
 some (.inr v28)
def bI.j1 (r1:ff) (v35:LI):Option Bs :=
 (iw r1.2.2.2.2.2.1).bind fun t36 =>
 (cK r1.2.2.2.2.2.2).bind fun t37 =>
 (cat? t36 t37).bind fun s38 =>
 (aQ s38 v35).bind fun v39 =>
 (bR v39.2).bind fun s40 =>
 some s40
def bI.j2 (r1:ff) (v24:LI):Option Bs :=
 (dm (r1.2.2.2.2.1.length:Int)).bind fun n25 =>
 (aQ n25 v24).bind fun v26 =>
 (bS (fun x=>bI.b2 r1 x.1 x.2) (0,v26.2)).bind fun x =>
 bI.j1 r1 x
def bI (r1:ff):Option Bs :=
 (cK r1.1).bind fun t2 =>
 (ed r1.2.1).bind fun n3 =>
 (cat? t2 n3).bind fun s4 =>
 (cK r1.2.2.1).bind fun t5 =>
 (cat? s4 t5).bind fun s6 =>
 (dm (r1.2.2.2.1.length:Int)).bind fun n7 =>
 (cat? s6 n7).bind fun s8 =>
 (bo s8).bind fun w9 =>
 (bS (fun x=>bI.b1 r1 x.1 x.2) (0,w9.2)).bind fun x =>
 bI.j2 r1 x
def gH:Option (List pX) :=
 some ([(([111,114]:Bs),9,1),(([97,110,100]:Bs),8,2),(([61,61]:Bs),7,4),(([60]:Bs),6,4),(([43]:Bs),3,5),(([45]:Bs),4,5),(([42]:Bs),5,6)]:List pX)
def cY.b1 (e1:Int) (o7:List pX) (v8:Int):Option ((Int)⊕((Unit)⊕(Int×Bs))) :=
 bif (ltZ v8 (o7.length:Int)) then
 ((idx o7 v8).bind fun v9 =>
 bif (eqZ v9.2.1 e1) then
  some (.inr (.inr (v9.2.2,v9.1)))
 else
  ((z64 (v8+1)).bind fun v10 =>
  some (.inl v10)))
 else
 some (.inr (.inl ()))
def cY.j1 (e1:Int) (v11:Bool):Option (Int×Bs) :=
 bif v11 then
 some (0,([]:Bs))
 else
 (bif (eqZ e1 10) then
  some (3,([]:Bs))
 else
  (bif (eqZ e1 14) then
  some (7,([]:Bs))
  else
  some (8,([]:Bs))))
def cY.j2 (e1:Int):Option (Int×Bs) :=
 (bif (eqZ e1 11) then
 some (eqZ e1 11)
 else
 (bif (eqZ e1 12) then
  some (eqZ e1 12)
 else
  some (eqZ e1 18))).bind fun x =>
 cY.j1 e1 x
def cY (e1:Int) (e2:Int) (e3:Bs) (e4:Bs) (e5:LB) (e6:LE):Option (Int×Bs) :=
 ((gH).bind fun o7 =>
 bS (fun x=>cY.b1 e1 o7 x) 0).bind fun x=>match x with
 | .inl x =>
 cY.j2 e1
 | .inr r=>some r
def cx (r0:Bool) (l:LI):Option (Bool×LI):=some (r0,l)
def dB (c1:Int) (b2:Bool) (p3:LI):Option (Bool×LI) :=
 (cx b2 p3).bind fun v4 =>
 (app? v4.2 ([c1]:LI)).bind fun l5 =>
 some (v4.1,l5)
def cP (s1:Bs) (b2:Bool) (p3:LI):Option (Int×Bool×LI) :=
 (cx b2 p3).bind fun v4 =>
 (app? v4.2 (bJ s1)).bind fun l5 =>
 some ((s1.length:Int),v4.1,l5)
def av.j1 (v4:Int) (v7:Bs) (w9:Bool) (v10:LI):Option ((Int×Bool×LI)⊕(Bool×LI)) :=
 (cP v7 w9 v10).bind fun v11 =>
 (z64 (v4+1)).bind fun v12 =>
 some (.inl (v12,true,v11.2.2))
def av.b1 (l1:LB) (v4:Int) (w5:Bool) (v6:LI):Option ((Int×Bool×LI)⊕(Bool×LI)) :=
 bif (ltZ v4 (l1.length:Int)) then
 ((idx l1 v4).bind fun v7 =>
 (bif w5 then
  ((dB 32 w5 v6).bind fun w8 =>
  some (w8.1,w8.2))
 else
  some (w5,v6)).bind fun x =>
 av.j1 v4 v7 x.1 x.2)
 else
 some (.inr (w5,v6))
def av (l1:LB) (w2:Bool) (p3:LI):Option (Bool×LI) :=
 bS (fun x=>av.b1 l1 x.1 x.2.1 x.2.2) (0,w2,p3)
def internal_strconv_FormatBool (b1:Bool):Option Bs :=
 bif b1 then
 some ([116,114,117,101]:Bs)
 else
 some ([102,97,108,115,101]:Bs)
def strconv_FormatBool (b1:Bool):Option Bs :=
 (internal_strconv_FormatBool b1).bind fun f2 =>
 some f2
def strings_Fields (s:Bs):Option LB:=uA s
def jN (word1:Bs):Option Int :=
 (strings_Fields ([102,105,108,101,115,32,110,101,116,32,99,108,111,99,107,32,115,101,99,114,101,116,115]:Bs)).bind fun f2 =>
 (aZ f2 word1).bind fun s3 =>
 bif (ltZ s3 0) then
 some 0
 else
 ((Ir .i64 1 s3).bind fun v4 =>
 some v4)
def bZ.j1 (Gr:Gr1) (v4:Int) (v7:fq) (w9:Bool) (v10:LI):Option ((Int×Bool×LI)⊕(Bool×LI)) :=
 (Gr v7.1 v7.2.1 v7.2.2.1 v7.2.2.2.1 v7.2.2.2.2.1 (v7.2.2.2.2.2.map (Uun 1)) 0 w9 v10).bind fun e11 =>
 (z64 (v4+1)).bind fun v12 =>
 some (.inl (v12,e11.1,e11.2))
def bZ.b1 (Gr:Gr1) (l1:LE) (v4:Int) (w5:Bool) (v6:LI):Option ((Int×Bool×LI)⊕(Bool×LI)) :=
 bif (ltZ v4 (l1.length:Int)) then
 ((idx l1 v4).bind fun v7 =>
 (bif (ltZ 0 v4) then
  ((av ([([44]:Bs)]:LB) w5 v6).bind fun p8 =>
  some (p8.1,p8.2))
 else
  some (w5,v6)).bind fun x =>
 bZ.j1 Gr v4 v7 x.1 x.2)
 else
 some (.inr (w5,v6))
def bZ (Gr:Gr1) (l1:LE) (w2:Bool) (p3:LI):Option (Bool×LI) :=
 bS (fun x=>bZ.b1 Gr l1 x.1 x.2.1 x.2.2) (0,w2,p3)
def al.j1 (Gr:Gr1) (e6:LE) (v10:Int) (v13:Bs) (w15:Bool) (v16:LI):Option ((Int×Bool×LI)⊕(Bool×LI)) :=
 (av ([v13,([61]:Bs)]:LB) w15 v16).bind fun p17 =>
 (idx e6 v10).bind fun v18 =>
 (Gr v18.1 v18.2.1 v18.2.2.1 v18.2.2.2.1 v18.2.2.2.2.1 (v18.2.2.2.2.2.map (Uun 1)) 0 p17.1 p17.2).bind fun e19 =>
 (z64 (v10+1)).bind fun v20 =>
 some (.inl (v20,e19.1,e19.2))
def al.b1 (Gr:Gr1) (e5:LB) (e6:LE) (v10:Int) (w11:Bool) (v12:LI):Option ((Int×Bool×LI)⊕(Bool×LI)) :=
 bif (ltZ v10 (e5.length:Int)) then
 ((idx e5 v10).bind fun v13 =>
 (bif (ltZ 0 v10) then
  ((av ([([44]:Bs)]:LB) w11 v12).bind fun p14 =>
  some (p14.1,p14.2))
 else
  some (w11,v12)).bind fun x =>
 al.j1 Gr e6 v10 v13 x.1 x.2)
 else
 some (.inr (w11,v12))
def al.j2 (w21:Bool) (v22:LI):Option ((Bool×LI)⊕(Bool×LI)) :=
 (av ([([125]:Bs)]:LB) w21 v22).bind fun p23 =>
 some (.inr (p23.1,p23.2))
def al.b2 (e2:Int) (f29:LB) (v30:Int) (w31:Bool) (v32:LI):Option ((Int×Bool×LI)⊕(Bool×LI)) :=
 bif (ltZ v30 (f29.length:Int)) then
 ((idx f29 v30).bind fun v33 =>
 (jN v33).bind fun b34 =>
 bif (eqZ b34 e2) then
  ((av ([v33]:LB) w31 v32).bind fun p35 =>
  (z64 (v30+1)).bind fun v36 =>
  some (.inl (v36,p35.1,p35.2)))
 else
  ((z64 (v30+1)).bind fun v37 =>
  some (.inl (v37,w31,v32))))
 else
 some (.inr (w31,v32))
def al.j3 (Gr:Gr1) (e6:LE) (w39:Bool) (v40:LI):Option (Bool×LI) :=
 (av ([([40]:Bs)]:LB) w39 v40).bind fun p41 =>
 (bZ Gr e6 p41.1 p41.2).bind fun e42 =>
 (av ([([41]:Bs)]:LB) e42.1 e42.2).bind fun p43 =>
 some (p43.1,p43.2)
def al.j4 (Gr:Gr1) (e1:Int) (e2:Int) (e3:Bs) (e6:LE) (w27:Bool) (v28:LI):Option (Bool×LI) :=
 (bif (eqZ e1 16) then
 ((strings_Fields ([102,105,108,101,115,32,110,101,116,32,99,108,111,99,107,32,115,101,99,114,101,116,115]:Bs)).bind fun f29 =>
 bS (fun x=>al.b2 e2 f29 x.1 x.2.1 x.2.2) (0,w27,v28))
 else
 ((av ([e3]:LB) w27 v28).bind fun p38 =>
 some (p38.1,p38.2))).bind fun x =>
 al.j3 Gr e6 x.1 x.2
def al.j5 (Gr:Gr1) (e1:Int) (e2:Int) (e3:Bs) (e4:Bs) (e6:LE) (w24:Bool) (v25:LI):Option (Bool×LI) :=
 (bif (!decide (e4=([]:Bs))) then
 ((av ([e4,([46]:Bs)]:LB) w24 v25).bind fun p26 =>
 some (p26.1,p26.2))
 else
 some (w24,v25)).bind fun x =>
 al.j4 Gr e1 e2 e3 e6 x.1 x.2
def al (Gr:Gr1) (e1:Int) (e2:Int) (e3:Bs) (e4:Bs) (e5:LB) (e6:LE) (w7:Bool) (p8:LI):Option (Bool×LI) :=
 ((bif (eqZ e1 13) then
 ((av ([([123]:Bs)]:LB) w7 p8).bind fun p9 =>
 (bS (fun x=>al.b1 Gr e5 e6 x.1 x.2.1 x.2.2) (0,p9.1,p9.2)).bind fun x =>
 al.j2 x.1 x.2)
 else
 some (.inl (w7,p8))):Option ((Bool×LI)⊕(Bool×LI))).bind fun x=>match x with
 | .inl x =>
 al.j5 Gr e1 e2 e3 e4 e6 x.1 x.2
 | .inr r=>some r
def bA.j1 (Gr:Gr1) (e6:LE) (own7:Int) (sign8:Bs) (w9:Bool) (p10:LI) (left12:Int):Option (Bool×LI) :=
 (idx e6 0).bind fun v13 =>
 (Gr v13.1 v13.2.1 v13.2.2.1 v13.2.2.2.1 v13.2.2.2.2.1 (v13.2.2.2.2.2.map (Uun 1)) left12 w9 p10).bind fun e14 =>
 (av ([sign8]:LB) e14.1 e14.2).bind fun p15 =>
 (idx e6 1).bind fun v16 =>
 (z64 (own7+1)).bind fun v17 =>
 (Gr v16.1 v16.2.1 v16.2.2.1 v16.2.2.2.1 v16.2.2.2.2.1 (v16.2.2.2.2.2.map (Uun 1)) v17 p15.1 p15.2).bind fun e18 =>
 some (e18.1,e18.2)
def bA.b1 (Gr:Gr1) (e6:LE) (v40:Int) (w41:Bool) (v42:LI):Option ((Int×Bool×LI)⊕(Bool×LI)) :=
 bif (ltZ v40 (([([105,102]:Bs),([116,104,101,110]:Bs),([101,108,115,101]:Bs)]:LB).length:Int)) then
 ((idx ([([105,102]:Bs),([116,104,101,110]:Bs),([101,108,115,101]:Bs)]:LB) v40).bind fun v43 =>
 (av ([v43]:LB) w41 v42).bind fun p44 =>
 (idx e6 v40).bind fun v45 =>
 (Gr v45.1 v45.2.1 v45.2.2.1 v45.2.2.2.1 v45.2.2.2.2.1 (v45.2.2.2.2.2.map (Uun 1)) 0 p44.1 p44.2).bind fun e46 =>
 (z64 (v40+1)).bind fun v47 =>
 some (.inl (v47,e46.1,e46.2)))
 else
 some (.inr (w41,v42))
def bA (Gr:Gr1) (e1:Int) (e2:Int) (e3:Bs) (e4:Bs) (e5:LB) (e6:LE) (own7:Int) (sign8:Bs) (w9:Bool) (p10:LI):Option (Bool×LI) :=
 bif (!decide (sign8=([]:Bs))) then
 ((bif (eqZ own7 4) then
  ((z64 (own7+1)).bind fun v11 =>
  some v11)
 else
  some own7).bind fun x =>
 bA.j1 Gr e6 own7 sign8 w9 p10 x)
 else
 (bif (eqZ e1 0) then
  ((strconv_Itoa e2).bind fun i19 =>
  (av ([i19]:LB) w9 p10).bind fun p20 =>
  some (p20.1,p20.2))
 else
  (bif (eqZ e1 1) then
  ((strconv_FormatBool (eqZ e2 1)).bind fun f21 =>
  (av ([f21]:LB) w9 p10).bind fun p22 =>
  some (p22.1,p22.2))
  else
  (bif (eqZ e1 2) then
   ((av ([e3]:LB) w9 p10).bind fun p23 =>
   some (p23.1,p23.2))
  else
   (bif (eqZ e1 17) then
   ((av ([([103,101,116]:Bs),e3]:LB) w9 p10).bind fun p24 =>
   some (p24.1,p24.2))
   else
   (bif (eqZ e1 18) then
    ((av ([([115,101,116]:Bs),e3]:LB) w9 p10).bind fun p25 =>
    (idx e6 0).bind fun v26 =>
    (Gr v26.1 v26.2.1 v26.2.2.1 v26.2.2.2.1 v26.2.2.2.2.1 (v26.2.2.2.2.2.map (Uun 1)) 0 p25.1 p25.2).bind fun e27 =>
    some (e27.1,e27.2))
   else
    (bif (eqZ e1 10) then
    ((av ([([110,111,116]:Bs)]:LB) w9 p10).bind fun p28 =>
    (idx e6 0).bind fun v29 =>
    (Gr v29.1 v29.2.1 v29.2.2.1 v29.2.2.2.1 v29.2.2.2.2.1 (v29.2.2.2.2.2.map (Uun 1)) 3 p28.1 p28.2).bind fun e30 =>
    some (e30.1,e30.2))
    else
    (bif (eqZ e1 14) then
     ((idx e6 0).bind fun v31 =>
     (Gr v31.1 v31.2.1 v31.2.2.1 v31.2.2.2.1 v31.2.2.2.2.1 (v31.2.2.2.2.2.map (Uun 1)) 7 w9 p10).bind fun e32 =>
     (av ([([46]:Bs),e3]:LB) e32.1 e32.2).bind fun p33 =>
     some (p33.1,p33.2))
    else
     (bif (eqZ e1 12) then
     ((av ([([108,101,116]:Bs),e3,([61]:Bs)]:LB) w9 p10).bind fun p34 =>
     (idx e6 0).bind fun v35 =>
     (Gr v35.1 v35.2.1 v35.2.2.1 v35.2.2.2.1 v35.2.2.2.2.1 (v35.2.2.2.2.2.map (Uun 1)) 0 p34.1 p34.2).bind fun e36 =>
     (av ([([105,110]:Bs)]:LB) e36.1 e36.2).bind fun p37 =>
     (idx e6 1).bind fun v38 =>
     (Gr v38.1 v38.2.1 v38.2.2.1 v38.2.2.2.1 v38.2.2.2.2.1 (v38.2.2.2.2.2.map (Uun 1)) 0 p37.1 p37.2).bind fun e39 =>
     some (e39.1,e39.2))
     else
     (bif (eqZ e1 11) then
      (bS (fun x=>bA.b1 Gr e6 x.1 x.2.1 x.2.2) (0,w9,p10))
     else
      ((al Gr e1 e2 e3 e4 e5 e6 w9 p10).bind fun g48 =>
      some (g48.1,g48.2)))))))))))
def aX.body (Gr:Gr1) (e1:Int) (e2:Int) (e3:Bs) (e4:Bs) (e5:LB) (e6:LE) (form7:Int) (w8:Bool) (p9:LI):Option (Bool×LI) :=
 (cY e1 e2 e3 e4 e5 e6).bind fun f10 =>
 bif (ltZ f10.1 form7) then
 ((av ([([40]:Bs)]:LB) w8 p9).bind fun p11 =>
 (bA Gr e1 e2 e3 e4 e5 e6 f10.1 f10.2 p11.1 p11.2).bind fun p12 =>
 (av ([([41]:Bs)]:LB) p12.1 p12.2).bind fun p13 =>
 some (p13.1,p13.2))
 else
 ((bA Gr e1 e2 e3 e4 e5 e6 f10.1 f10.2 w8 p9).bind fun p14 =>
 some (p14.1,p14.2))
def aX.rec:Nat->Int->Int->Bs->Bs->LB->LE->Int->Bool->LI->Option (Bool×LI)
 | 0=>fun _ _ _ _ _ _ _ _ _=>none
 | n+1=>aX.body (aX.rec n)
def aX (e1:Int) (e2:Int) (e3:Bs) (e4:Bs) (e5:LB) (e6:LE) (form7:Int) (w8:Bool) (p9:LI):Option (Bool×LI):=aX.rec Fuel.n e1 e2 e3 e4 e5 e6 form7 w8 p9
def fL (b1:Bool) (p2:LI):Option Int :=
 some (p2.length:Int)
def dC (r0:Bool) (l:LI):Option (Bs):=(qy l)
def ft (w1:Bool) (p2:LI):Option (Bs×Int) :=
 (fL w1 p2).bind fun l3 =>
 bif (ltZ 8000 l3) then
 some (([]:Bs),6)
 else
 ((dC w1 p2).bind fun v4 =>
 some (v4,0))
def dV.j1 (e1:Int) (e2:Int) (e3:Bs) (e4:Bs) (e5:LB) (e6:LE) (w8:Bool) (v9:LI):Option (Bs×Int) :=
 (aX e1 e2 e3 e4 e5 e6 0 w8 v9).bind fun e10 =>
 (ft e10.1 e10.2).bind fun d11 =>
 some (d11.1,d11.2)
def dV (e1:Int) (e2:Int) (e3:Bs) (e4:Bs) (e5:LB) (e6:LE):Option (Bs×Int) :=
 (dc e1 e2 e3 e4 e5 e6).bind fun r7 =>
 bif (!r7) then
 some (([]:Bs),1)
 else
 ((some (false,[])).bind fun x =>
 dV.j1 e1 e2 e3 e4 e5 e6 x.1 x.2)
def dz.b1 (l1:LI) (v5:Int) (v6:LI):Option ((Int×LI)⊕LI) :=
 bif (ltZ v5 (l1.length:Int)) then
 ((idx l1 v5).bind fun v7 =>
 (jr v7).bind fun i8 =>
 (aQ i8 v6).bind fun v9 =>
 (z64 (v5+1)).bind fun v10 =>
 some (.inl (v10,v9.2)))
 else
 some (.inr v6)
def dz.j1 (v11:LI):Option Bs :=
 (bR v11).bind fun s12 =>
 (cat? s12 ([93]:Bs)).bind fun s13 =>
 some s13
def dz (l1:LI):Option Bs :=
 (strconv_Itoa (l1.length:Int)).bind fun i2 =>
 (cat? i2 ([91]:Bs)).bind fun s3 =>
 (bo s3).bind fun w4 =>
 (bS (fun x=>dz.b1 l1 x.1 x.2) (0,w4.2)).bind fun x =>
 dz.j1 x
def kB (l1:LI):Option Bs :=
 (dz l1).bind fun i2 =>
 some i2
def dj.j1 (f1:bX) (s8:Bs) (v11:Bool):Option ((Bs)⊕(Bs×Int)) :=
 bif v11 then
 ((cK f1.2.1).bind fun t12 =>
 (ed f1.2.2.1).bind fun n13 =>
 (cat? t12 n13).bind fun s14 =>
 (cat? s8 s14).bind fun s15 =>
 some (.inl s15))
 else
 (bif (eqZ f1.1 7) then
  ((cK f1.2.1).bind fun t16 =>
  (ed f1.2.2.1).bind fun n17 =>
  (cat? t16 n17).bind fun s18 =>
  (dm f1.2.2.2.2.2.2.2.2.1).bind fun n19 =>
  (cat? s18 n19).bind fun s20 =>
  (cat? s8 s20).bind fun s21 =>
  some (.inl s21))
 else
  (bif (eqZ f1.1 3) then
  ((dV f1.2.2.2.2.1.2.2.2.2.1 f1.2.2.2.2.1.2.2.2.2.2.1 f1.2.2.2.2.1.2.2.2.2.2.2.1 f1.2.2.2.2.1.2.2.2.2.2.2.2.1 f1.2.2.2.2.1.2.2.2.2.2.2.2.2.1 (f1.2.2.2.2.1.2.2.2.2.2.2.2.2.2.map (Uun 1))).bind fun p22 =>
  bif (!eqZ p22.2 0) then
   some (.inr (([]:Bs),6))
  else
   ((dm f1.2.2.2.2.1.1).bind fun n23 =>
   (cK f1.2.2.2.2.1.2.1).bind fun t24 =>
   (cat? n23 t24).bind fun s25 =>
   (eQ f1.2.2.2.2.1.2.2.1).bind fun r26 =>
   (cat? s25 r26).bind fun s27 =>
   (cK f1.2.2.2.2.1.2.2.2.1).bind fun t28 =>
   (cat? s27 t28).bind fun s29 =>
   (cK p22.1).bind fun t30 =>
   (cat? s29 t30).bind fun s31 =>
   (cat? s8 s31).bind fun s32 =>
   some (.inl s32)))
  else
  ((cK f1.2.1).bind fun t33 =>
  (kB f1.2.2.2.2.2.1).bind fun n34 =>
  (cat? t33 n34).bind fun s35 =>
  (dm f1.2.2.2.2.2.2.1).bind fun n36 =>
  (cat? s35 n36).bind fun s37 =>
  (dm f1.2.2.2.2.2.2.2.1).bind fun n38 =>
  (cat? s37 n38).bind fun s39 =>
  (cat? s8 s39).bind fun s40 =>
  some (.inl s40))))
def dj.j2 (s41:Bs):Option (Bs×Int) :=
 bif (ltZ 20000 (s41.length:Int)) then
 some (([]:Bs),6)
 else
 some (s41,0)
def dj (f1:bX):Option (Bs×Int) :=
 (bV (IF f1)).bind fun r2 =>
 bif (!r2) then
 some (([]:Bs),1)
 else
 ((gh (IF f1)).bind fun k3 =>
 (cK k3).bind fun t4 =>
 (dm f1.1).bind fun n5 =>
 (cat? t4 n5).bind fun s6 =>
 (dm f1.2.2.2.2.2.2.2.2.2).bind fun n7 =>
 (cat? s6 n7).bind fun s8 =>
 ((bif (eqZ f1.1 0) then
  ((bI f1.2.2.2.1).bind fun p9 =>
  (cat? s8 p9).bind fun s10 =>
  some (.inl s10))
 else
  ((bif (eqZ f1.1 1) then
  some (eqZ f1.1 1)
  else
  some (eqZ f1.1 2)).bind fun x =>
  dj.j1 f1 s8 x)):Option ((Bs)⊕(Bs×Int))).bind fun x=>match x with
 | .inl x =>
  dj.j2 x
 | .inr r=>some r)
def iL (kind1:Int):Option (cZ×Bool) :=
 bif (eqZ kind1 0) then
 some ((199999,0,20000),true)
 else
 (bif (eqZ kind1 1) then
  some ((200000,1073741824,0),true)
 else
  (bif (eqZ kind1 2) then
  some ((200000,0,20000),true)
  else
  (bif (eqZ kind1 3) then
   some ((1073741824,0,20000),true)
  else
   (bif (eqZ kind1 4) then
   some ((1073741824,1073741824,20000),true)
   else
   some ((0,0,0),false)))))
def jy (s1:Bs):Option (Bs×Bool) :=
 some (s1,false)
def strings_IndexByte (s:Bs) (c:Int):Option Int:=oG s c
def du (r1:Bs) (r2:Bool):Option (Bs×Bool) :=
 some (([]:Bs),true)
def strconv_Atoi (s:Bs):Option Int:=yk s
def ca.j1 (r3:Bs) (r4:Bool) (i6:Int) (a9:Int) (v12:Bool):Option (Int×Bs×Bool) :=
 bif v12 then
 ((du r3 r4).bind fun f13 =>
 some (0,f13.1,f13.2))
 else
 ((z64 (i6+1)).bind fun v14 =>
 (cut r3 v14 (r3.length:Int)).bind fun s15 =>
 some (a9,s15,r4))
def ca (end1:Int) (least2:Int) (r3:Bs) (r4:Bool):Option (Int×Bs×Bool) :=
 (cut r3 0 (min (r3.length:Int) 21)).bind fun s5 =>
 (strings_IndexByte s5 end1).bind fun i6 =>
 bif (ltZ i6 0) then
 ((du r3 r4).bind fun f7 =>
 some (0,f7.1,f7.2))
 else
 ((cut s5 0 i6).bind fun s8 =>
 (strconv_Atoi s8).bind fun a9 =>
 ((strconv_Itoa a9).bind fun i10 =>
 (cut s5 0 i6).bind fun s11 =>
 bif (!decide (i10=s11)) then
  some true
 else
  some (ltZ a9 least2)).bind fun x =>
 ca.j1 r3 r4 i6 a9 x)
def cQ (s1:Bs) (prefix2:Bs):Option Bool :=
 bif (leZ (prefix2.length:Int) (s1.length:Int)) then
 ((cut s1 0 (prefix2.length:Int)).bind fun s3 =>
 some (decide (s3=prefix2)))
 else
 some false
def cR (s1:Bs) (prefix2:Bs):Option (Bs×Bool) :=
 (cQ s1 prefix2).bind fun h3 =>
 bif (!h3) then
 some (s1,false)
 else
 ((cut s1 (prefix2.length:Int) (s1.length:Int)).bind fun s4 =>
 some (s4,true))
def strings_CutPrefix (s1:Bs) (prefix2:Bs):Option (Bs×Bool) :=
 (cR s1 prefix2).bind fun c3 =>
 some (c3.1,c3.2)
def eJ (end1:Bs) (r2:Bs) (r3:Bool):Option (Bs×Bool) :=
 (strings_CutPrefix r2 end1).bind fun c4 =>
 bif (!c4.2) then
 ((du c4.1 r3).bind fun f5 =>
 some (f5.1,f5.2))
 else
 some (c4.1,r3)
def db (r1:Bs) (r2:Bool):Option (Bs×Bs×Bool) :=
 (ca 58 0 r1 r2).bind fun n3 =>
 bif (ltZ (n3.2.1.length:Int) n3.1) then
 ((du n3.2.1 n3.2.2).bind fun f4 =>
 some (([]:Bs),f4.1,f4.2))
 else
 ((cut n3.2.1 0 n3.1).bind fun s5 =>
 (cut n3.2.1 n3.1 (n3.2.1.length:Int)).bind fun s6 =>
 (eJ ([44]:Bs) s6 n3.2.2).bind fun c7 =>
 bif c7.2 then
  some (([]:Bs),c7.1,c7.2)
 else
  some (s5,c7.1,c7.2))
def er (text1:Bs):Option (Bs×Bool) :=
 (jy text1).bind fun o2 =>
 (db o2.1 o2.2).bind fun t3 =>
 bif (decide (t3.1=([]:Bs))) then
 ((cK ([]:Bs)).bind fun t4 =>
 bif (leZ (t4.length:Int) (text1.length:Int)) then
  ((cK ([]:Bs)).bind fun t5 =>
  (cut text1 0 (t5.length:Int)).bind fun s6 =>
  (cK ([]:Bs)).bind fun t7 =>
  some (([]:Bs),(decide (s6=t7))))
 else
  some (([]:Bs),false))
 else
 some (t3.1,true)
def cq.j1 (c1:eY) (l2:cZ×Bool) (v3:Bool):Option Bool :=
 bif v3 then
 some false
 else
 (bif (eqZ c1.1 0) then
  ((er c1.2.2.2).bind fun k4 =>
  some k4.2)
 else
  some l2.2)
def cq (c1:eY):Option Bool :=
 (iL c1.1).bind fun l2 =>
 (bif (!l2.2) then
 some true
 else
 (bif (ltZ c1.2.1 0) then
  some true
 else
  (bif (ltZ l2.1.1 c1.2.1) then
  some true
  else
  (bif (ltZ c1.2.2.1 0) then
   some true
  else
   (bif (ltZ l2.1.2.1 c1.2.2.1) then
   some true
   else
   some (ltZ l2.1.2.2 (c1.2.2.2.length:Int))))))).bind fun x =>
 cq.j1 c1 l2 x
def eG (c1:eY):Option Bs :=
 (cq c1).bind fun r2 =>
 bif (!r2) then
 some ([]:Bs)
 else
 ((dm c1.1).bind fun n3 =>
 (dm c1.2.1).bind fun n4 =>
 (cat? n3 n4).bind fun s5 =>
 (dm c1.2.2.1).bind fun n6 =>
 (cat? s5 n6).bind fun s7 =>
 (cK c1.2.2.2).bind fun t8 =>
 (cat? s7 t8).bind fun s9 =>
 some s9)
def lP (n1:Int):Option Bool :=
 bif (leZ 0 n1) then
 some (ltZ n1 200)
 else
 some false
def di (k1:Int) (text2:Bs) (p3:LS) (p4:LM):Option (da×LS×LM) :=
 (lP k1).bind fun k5 =>
 bif (!k5) then
 some ((0,([]:Bs),0),p3,p4)
 else
 (bif (!(cM p4 (k1,text2)).isSome) then
  ((app? p3 ([(k1,text2)]:LS)).bind fun l6 =>
  some ((k1,text2,(p3.length:Int)),l6,(gv p4 (k1,text2) (p3.length:Int))))
 else
  some ((k1,text2,((cM p4 (k1,text2)).getD 0)),p3,p4))
def cD (key1:Int) (n2:Int) (f3:bX) (p4:LS) (p5:LM):Option (da×LS×LM) :=
 (dj (IF f3)).bind fun t6 =>
 (eG (0,n2,0,t6.1)).bind fun t7 =>
 (di key1 t7 p4 p5).bind fun s8 =>
 some (s8.1,s8.2.1,s8.2.2)
def dF (r1:Bs) (r2:Bool):Option (Int×Bs×Bool) :=
 (ca 59 0 r1 r2).bind fun n3 =>
 some (n3.1,n3.2.1,n3.2.2)
def gI (r1:Bs) (r2:Bool):Option Bool :=
 bif (!r2) then
 some (decide (r1=([]:Bs)))
 else
 some false
def dQ.j1 (n3:Int×Bs×Bool) (n4:Int×Bs×Bool) (n5:Int×Bs×Bool) (t6:Bs×Bs×Bool) (v9:Bool):Option (eY×Int) :=
 bif v9 then
 some ((0,0,0,([]:Bs)),2)
 else
 some ((n3.1,n4.1,n5.1,t6.1),0)
def dQ (s1:Bs):Option (eY×Int) :=
 (jy s1).bind fun o2 =>
 (dF o2.1 o2.2).bind fun n3 =>
 (dF n3.2.1 n3.2.2).bind fun n4 =>
 (dF n4.2.1 n4.2.2).bind fun n5 =>
 (db n5.2.1 n5.2.2).bind fun t6 =>
 ((gI t6.2.1 t6.2.2).bind fun d7 =>
 bif (!d7) then
 some true
 else
 ((cq (n3.1,n4.1,n5.1,t6.1)).bind fun r8 =>
 some (!r8))).bind fun x =>
 dQ.j1 n3 n4 n5 t6 x
def eR (text1:Bs):Option (eY×Bool) :=
 (dQ text1).bind fun r2 =>
 bif (eqZ r2.2 0) then
 (bif (eqZ r2.1.1 0) then
  some (r2.1,true)
 else
  (bif (eqZ r2.1.1 1) then
  some (r2.1,true)
  else
  some (r2.1,(eqZ r2.1.1 2))))
 else
 some (r2.1,false)
def bK (s1:da) (p2:LS) (p3:LM):Option Bool :=
 bif (cM p3 (s1.1,s1.2.1)).isSome then
 some (eqZ ((cM p3 (s1.1,s1.2.1)).getD 0) s1.2.2)
 else
 some false
def fX (entry1:eY) (absent2:eY):Option Bool :=
 (er entry1.2.2.2).bind fun k3 =>
 bif k3.2 then
 (bif (ltZ entry1.2.1 absent2.2.1) then
  some (decide (k3.1=absent2.2.2.2))
 else
  some false)
 else
 some false
def bp.j1 (a1:eY) (b2:eY) (v8:Bool):Option Bool :=
 bif v8 then
 ((fX b2 a1).bind fun r9 =>
 some r9)
 else
 (bif (!eqZ a1.1 b2.1) then
  some false
 else
  (bif (eqZ a1.1 1) then
  (bif (eqZ a1.2.2.1 b2.2.2.1) then
   some (!eqZ a1.2.1 b2.2.1)
  else
   (bif (!((ltZ a1.2.2.1 b2.2.2.1) == (ltZ a1.2.1 b2.2.1))) then
   some (!eqZ a1.2.1 b2.2.1)
   else
   some false))
  else
  (bif (eqZ a1.1 3) then
   (bif (decide (a1.2.2.2=b2.2.2.2)) then
   some (!eqZ a1.2.1 b2.2.1)
   else
   some false)
  else
   (bif (!eqZ a1.1 2) then
   (bif (eqZ a1.2.1 b2.2.1) then
    (bif (eqZ a1.2.2.1 b2.2.2.1) then
    some (!decide (a1.2.2.2=b2.2.2.2))
    else
    some false)
   else
    some false)
   else
   some false))))
def bp.j2 (a1:eY) (b2:eY) (v6:Bool):Option Bool :=
 bif v6 then
 ((fX a1 b2).bind fun r7 =>
 some r7)
 else
 ((bif (eqZ a1.1 2) then
  some (eqZ b2.1 0)
 else
  some false).bind fun x =>
 bp.j1 a1 b2 x)
def bp.j3 (a1:eY) (b2:eY) (v5:Bool):Option Bool :=
 bif v5 then
 some false
 else
 ((bif (eqZ a1.1 0) then
  some (eqZ b2.1 2)
 else
  some false).bind fun x =>
 bp.j2 a1 b2 x)
def bp (a1:eY) (b2:eY):Option Bool :=
 ((cq a1).bind fun r3 =>
 bif (!r3) then
 some true
 else
 ((cq b2).bind fun r4 =>
 some (!r4))).bind fun x =>
 bp.j3 a1 b2 x
def fu (x1:eY) (p2:Int) (p3:Int) (p4:Int) (p5:Bs):Option Bool :=
 (bp x1 (p2,p3,p4,p5)).bind fun c6 =>
 some c6
def aC.b1 (s1:LC) (p2:Int) (p3:Int) (p4:Int) (p5:Bs) (v6:Int):Option ((Int)⊕(Int)) :=
 bif (ltZ v6 (s1.length:Int)) then
 ((idx s1 v6).bind fun v7 =>
 (fu v7 p2 p3 p4 p5).bind fun v'8 =>
 bif v'8 then
  some (.inr v6)
 else
  ((z64 (v6+1)).bind fun v9 =>
  some (.inl v9)))
 else
 some (.inr (-1))
def aC (s1:LC) (p2:Int) (p3:Int) (p4:Int) (p5:Bs):Option Int :=
 bS (fun x=>aC.b1 s1 p2 p3 p4 p5 x) 0
def aO (s1:LC) (p2:Int) (p3:Int) (p4:Int) (p5:Bs):Option Bool :=
 (aC s1 p2 p3 p4 p5).bind fun c6 =>
 some (leZ 0 c6)
def bb.b1 (s1:LG) (p2:da) (v3:Int):Option ((Int)⊕(Int)) :=
 bif (ltZ v3 (s1.length:Int)) then
 ((idx s1 v3).bind fun v4 =>
 bif ((eqZ p2.1 v4.1 && (decide (p2.2.1=v4.2.1) && eqZ p2.2.2 v4.2.2))) then
  some (.inr v3)
 else
  ((z64 (v3+1)).bind fun v5 =>
  some (.inl v5)))
 else
 some (.inr (-1))
def bb (s1:LG) (p2:da):Option Int :=
 bS (fun x=>bb.b1 s1 p2 x) 0
def bq (s1:LG) (p2:da):Option Bool :=
 (bb s1 p2).bind fun s3 =>
 some (leZ 0 s3)
def br (s1:da) (p2:Int) (p3:Int) (p4:Int) (p5:LS) (p6:LM) (p7:LG) (p8:LC) (p9:LS) (p10:LK):Option (Int×Int×Int×Int×LG×LC×LS×LM×LS×LK) :=
 (eR s1.2.1).bind fun a11 =>
 (bK s1 p5 p6).bind fun v12 =>
 bif (!v12) then
 some (18,p2,p3,p4,p7,p8,p5,p6,p9,p10)
 else
 (bif (!eqZ s1.1 p2) then
  some (22,p2,p3,p4,p7,p8,p5,p6,p9,p10)
 else
  (bif (!a11.2) then
  some (2,p2,p3,p4,p7,p8,p5,p6,p9,p10)
  else
  ((aO p8 a11.1.1 a11.1.2.1 a11.1.2.2.1 a11.1.2.2.2).bind fun c13 =>
  bif c13 then
   some (21,p2,p3,p4,p7,p8,p5,p6,p9,p10)
  else
   ((bq p7 s1).bind fun s14 =>
   bif s14 then
   some (0,p2,p3,p4,p7,p8,p5,p6,p9,p10)
   else
   ((app? p7 ([s1]:LG)).bind fun l15 =>
   (app? p8 ([a11.1]:LC)).bind fun l16 =>
   bif (eqZ a11.1.1 0) then
    some (0,p2,p3,p4,l15,l16,p5,p6,(gv p9 a11.1.2.1 a11.1.2.2.2),p10)
   else
    (bif (eqZ a11.1.1 2) then
    some (0,p2,p3,p4,l15,l16,p5,p6,p9,(gv p10 a11.1.2.2.2 (max ((cM p10 a11.1.2.2.2).getD 0) a11.1.2.1)))
    else
    (bif (eqZ a11.1.1 1) then
     (bif (ltZ p4 a11.1.2.2.1) then
     some (0,p2,a11.1.2.1,a11.1.2.2.1,l15,l16,p5,p6,p9,p10)
     else
     some (0,p2,p3,p4,l15,l16,p5,p6,p9,p10))
    else
     some (0,p2,p3,p4,l15,l16,p5,p6,p9,p10))))))))
def ix (p1:Int) (p2:Int) (p3:Int) (p4:LS) (p5:LM) (p6:LG) (p7:LC) (p8:LS) (p9:LK):Option Int :=
 some p1
def cT (s1:LG):Option LG :=
 po s1 (
 some []) (
 (app? ([]:LG) s1).bind fun l2 =>
 some l2)
def fV (p1:Int) (p2:Int) (p3:Int) (p4:LS) (p5:LM) (p6:LG) (p7:LC) (p8:LS) (p9:LK):Option LG :=
 (cT p6).bind fun s10 =>
 some s10
def gp (x1:eY) (p2:Int) (p3:Int) (p4:Int) (p5:Bs):Option Bool :=
 (bp x1 (p2,p3,p4,p5)).bind fun c6 =>
 some c6
def bE.b1 (s1:LC) (p2:Int) (p3:Int) (p4:Int) (p5:Bs) (v6:Int):Option ((Int)⊕(Int)) :=
 bif (ltZ v6 (s1.length:Int)) then
 ((idx s1 v6).bind fun v7 =>
 (gp v7 p2 p3 p4 p5).bind fun v'8 =>
 bif v'8 then
  some (.inr v6)
 else
  ((z64 (v6+1)).bind fun v9 =>
  some (.inl v9)))
 else
 some (.inr (-1))
def bE (s1:LC) (p2:Int) (p3:Int) (p4:Int) (p5:Bs):Option Int :=
 bS (fun x=>bE.b1 s1 p2 p3 p4 p5 x) 0
def hY (s1:da) (p2:Int) (p3:Int) (p4:Int) (p5:LS) (p6:LM) (p7:LG) (p8:LC) (p9:LS) (p10:LK):Option (da×Bool) :=
 (dQ s1.2.1).bind fun r11 =>
 bif (!eqZ r11.2 0) then
 some ((0,([]:Bs),0),false)
 else
 ((bE p8 r11.1.1 r11.1.2.1 r11.1.2.2.1 r11.1.2.2.2).bind fun v12 =>
 bif (ltZ v12 0) then
  some ((0,([]:Bs),0),false)
 else
  ((idx p7 v12).bind fun _13 =>
  (idx p7 v12).bind fun v14 =>
  some (v14,true)))
def eD.b1 (a1:Int) (a2:Int) (a3:Int) (b4:Int) (b5:Int) (b6:Int) (p7:LS) (p8:LM) (p9:LG) (p10:LC) (p11:LS) (p12:LK) (p13:LG) (p14:LC) (p15:LS) (p16:LK) (c19:LG) (v21:Int):Option ((Int)⊕((Int×Bs×Int×Int×Bs×Int)⊕(da×da×Bool×Int×Int×Int×Int×Int×Int×LG×LC×LG×LC×LS×LM×LS×LK×LS×LK))) :=
 bif (ltZ v21 (c19.length:Int)) then
 ((idx c19 v21).bind fun v22 =>
 (hY v22 b4 b5 b6 p7 p8 p13 p14 p15 p16).bind fun c23 =>
 bif c23.2 then
  some (.inr (.inr (v22,c23.1,true,a1,a2,a3,b4,b5,b6,p9,p10,p13,p14,p7,p8,p11,p12,p15,p16)))
 else
  ((z64 (v21+1)).bind fun v24 =>
  some (.inl v24)))
 else
 some (.inr (.inl (0,([]:Bs),0,0,([]:Bs),0)))
def eD.b2 (c20:LG) (v31:Int) (a32:Int) (a33:Int) (a34:Int) (b35:Int) (b36:Int) (b37:Int) (v38:LG) (v39:LC) (v40:LS) (v41:LK) (v42:LG) (v43:LC) (v44:LS) (v45:LK) (v46:LS) (v47:LM):Option ((Int×Int×Int×Int×Int×Int×Int×LG×LC×LS×LK×LG×LC×LS×LK×LS×LM)⊕(Int×Int×Int×Int×Int×Int×LG×LC×LS×LK×LG×LC×LS×LK×LS×LM)) :=
 bif (ltZ v31 (c20.length:Int)) then
 ((idx c20 v31).bind fun v48 =>
 (br v48 a32 a33 a34 v46 v47 v38 v39 v40 v41).bind fun a49 =>
 (z64 (v31+1)).bind fun v50 =>
 some (.inl (v50,a49.2.1,a49.2.2.1,a49.2.2.2.1,b35,b36,b37,a49.2.2.2.2.1,a49.2.2.2.2.2.1,a49.2.2.2.2.2.2.2.2.1,a49.2.2.2.2.2.2.2.2.2,v42,v43,v44,v45,a49.2.2.2.2.2.2.1,a49.2.2.2.2.2.2.2.1)))
 else
 some (.inr (b35,b36,b37,a32,a33,a34,v42,v43,v44,v45,v38,v39,v40,v41,v46,v47))
def eD.b3 (c19:LG) (v67:Int) (b68:Int) (b69:Int) (b70:Int) (v71:Int) (v72:Int) (v73:Int) (v74:LG) (v75:LC) (v76:LS) (v77:LK) (v78:LG) (v79:LC) (v80:LS) (v81:LK) (v82:LS) (v83:LM):Option ((Int×Int×Int×Int×Int×Int×Int×LG×LC×LS×LK×LG×LC×LS×LK×LS×LM)⊕(da×da×Bool×Int×Int×Int×Int×Int×Int×LG×LC×LG×LC×LS×LM×LS×LK×LS×LK)) :=
 bif (ltZ v67 (c19.length:Int)) then
 ((idx c19 v67).bind fun v84 =>
 (br v84 b68 b69 b70 v82 v83 v74 v75 v76 v77).bind fun a85 =>
 (z64 (v67+1)).bind fun v86 =>
 some (.inl (v86,a85.2.1,a85.2.2.1,a85.2.2.2.1,v71,v72,v73,a85.2.2.2.2.1,a85.2.2.2.2.2.1,a85.2.2.2.2.2.2.2.2.1,a85.2.2.2.2.2.2.2.2.2,v78,v79,v80,v81,a85.2.2.2.2.2.2.1,a85.2.2.2.2.2.2.2.1)))
 else
 some (.inr ((0,([]:Bs),0),(0,([]:Bs),0),false,v71,v72,v73,b68,b69,b70,v78,v79,v74,v75,v82,v83,v80,v81,v76,v77))
def eD.j1 (c19:LG) (b51:Int) (b52:Int) (b53:Int) (v54:Int) (v55:Int) (v56:Int) (v57:LG) (v58:LC) (v59:LS) (v60:LK) (v61:LG) (v62:LC) (v63:LS) (v64:LK) (v65:LS) (v66:LM):Option (da×da×Bool×Int×Int×Int×Int×Int×Int×LG×LC×LG×LC×LS×LM×LS×LK×LS×LK) :=
 bS (fun x=>eD.b3 c19 x.1 x.2.1 x.2.2.1 x.2.2.2.1 x.2.2.2.2.1 x.2.2.2.2.2.1 x.2.2.2.2.2.2.1 x.2.2.2.2.2.2.2.1 x.2.2.2.2.2.2.2.2.1 x.2.2.2.2.2.2.2.2.2.1 x.2.2.2.2.2.2.2.2.2.2.1 x.2.2.2.2.2.2.2.2.2.2.2.1 x.2.2.2.2.2.2.2.2.2.2.2.2.1 x.2.2.2.2.2.2.2.2.2.2.2.2.2.1 x.2.2.2.2.2.2.2.2.2.2.2.2.2.2.1 x.2.2.2.2.2.2.2.2.2.2.2.2.2.2.2.1 x.2.2.2.2.2.2.2.2.2.2.2.2.2.2.2.2) (0,b51,b52,b53,v54,v55,v56,v57,v58,v59,v60,v61,v62,v63,v64,v65,v66)
def eD.j2 (a1:Int) (a2:Int) (a3:Int) (b4:Int) (b5:Int) (b6:Int) (p7:LS) (p8:LM) (p9:LG) (p10:LC) (p11:LS) (p12:LK) (p13:LG) (p14:LC) (p15:LS) (p16:LK) (c19:LG) (c20:LG) (v25:Int) (v26:Bs) (v27:Int) (v28:Int) (v29:Bs) (v30:Int):Option (da×da×Bool×Int×Int×Int×Int×Int×Int×LG×LC×LG×LC×LS×LM×LS×LK×LS×LK) :=
 (bS (fun x=>eD.b2 c20 x.1 x.2.1 x.2.2.1 x.2.2.2.1 x.2.2.2.2.1 x.2.2.2.2.2.1 x.2.2.2.2.2.2.1 x.2.2.2.2.2.2.2.1 x.2.2.2.2.2.2.2.2.1 x.2.2.2.2.2.2.2.2.2.1 x.2.2.2.2.2.2.2.2.2.2.1 x.2.2.2.2.2.2.2.2.2.2.2.1 x.2.2.2.2.2.2.2.2.2.2.2.2.1 x.2.2.2.2.2.2.2.2.2.2.2.2.2.1 x.2.2.2.2.2.2.2.2.2.2.2.2.2.2.1 x.2.2.2.2.2.2.2.2.2.2.2.2.2.2.2.1 x.2.2.2.2.2.2.2.2.2.2.2.2.2.2.2.2) (0,a1,a2,a3,b4,b5,b6,p9,p10,p11,p12,p13,p14,p15,p16,p7,p8)).bind fun x =>
 eD.j1 c19 x.1 x.2.1 x.2.2.1 x.2.2.2.1 x.2.2.2.2.1 x.2.2.2.2.2.1 x.2.2.2.2.2.2.1 x.2.2.2.2.2.2.2.1 x.2.2.2.2.2.2.2.2.1 x.2.2.2.2.2.2.2.2.2.1 x.2.2.2.2.2.2.2.2.2.2.1 x.2.2.2.2.2.2.2.2.2.2.2.1 x.2.2.2.2.2.2.2.2.2.2.2.2.1 x.2.2.2.2.2.2.2.2.2.2.2.2.2.1 x.2.2.2.2.2.2.2.2.2.2.2.2.2.2.1 x.2.2.2.2.2.2.2.2.2.2.2.2.2.2.2
def eD (a1:Int) (a2:Int) (a3:Int) (b4:Int) (b5:Int) (b6:Int) (p7:LS) (p8:LM) (p9:LG) (p10:LC) (p11:LS) (p12:LK) (p13:LG) (p14:LC) (p15:LS) (p16:LK):Option (da×da×Bool×Int×Int×Int×Int×Int×Int×LG×LC×LG×LC×LS×LM×LS×LK×LS×LK) :=
 (ix a1 a2 a3 p7 p8 p9 p10 p11 p12).bind fun k17 =>
 (ix b4 b5 b6 p7 p8 p13 p14 p15 p16).bind fun k18 =>
 bif (!eqZ k17 k18) then
 some ((0,([]:Bs),0),(0,([]:Bs),0),false,a1,a2,a3,b4,b5,b6,p9,p10,p13,p14,p7,p8,p11,p12,p15,p16)
 else
 ((fV a1 a2 a3 p7 p8 p9 p10 p11 p12).bind fun c19 =>
 (fV b4 b5 b6 p7 p8 p13 p14 p15 p16).bind fun c20 =>
 (bS (fun x=>eD.b1 a1 a2 a3 b4 b5 b6 p7 p8 p9 p10 p11 p12 p13 p14 p15 p16 c19 x) 0).bind fun x=>match x with
 | .inl x =>
  eD.j2 a1 a2 a3 b4 b5 b6 p7 p8 p9 p10 p11 p12 p13 p14 p15 p16 c19 c20 x.1 x.2.1 x.2.2.1 x.2.2.2.1 x.2.2.2.2.1 x.2.2.2.2.2
 | .inr r=>some r)
def eK.j1 (v6:Int) (seen7:List (Int×Bool)) (v8:Int) (v11:Bool):Option ((Int×List (Int×Bool))⊕((Int×List (Int×Bool))⊕(Bool))) :=
 bif v11 then
 some (.inr (.inr false))
 else
 ((z64 (v6+1)).bind fun v12 =>
 some (.inl (v12,(gv seen7 v8 true))))
def eK.b1 (v2:Int) (v4:lq) (v6:Int) (seen7:List (Int×Bool)):Option ((Int×List (Int×Bool))⊕((Int×List (Int×Bool))⊕(Bool))) :=
 bif (ltZ v6 (v4.1.length:Int)) then
 ((idx v4.1 v6).bind fun v8 =>
 (bif (ltZ v8 0) then
  some true
 else
  (bif (leZ 200 v8) then
  some true
  else
  (bif (ltZ 0 v6) then
   ((z64 (v6-1)).bind fun v9 =>
   (idx v4.1 v9).bind fun v10 =>
   bif (leZ v8 v10) then
   some true
   else
   some ((cM seen7 v8).getD false))
  else
   some ((cM seen7 v8).getD false)))).bind fun x =>
 eK.j1 v6 seen7 v8 x)
 else
 (Option.map Sum.inr ((z64 (v2+1)).bind fun v13 =>
 some (.inl (v13,seen7))))
def eK.j2 (v2:Int) (seen3:List (Int×Bool)) (v4:lq) (v5:Bool):Option ((Int×List (Int×Bool))⊕(Bool)) :=
 bif v5 then
 some (.inr false)
 else
 (bS (fun x=>eK.b1 v2 v4 x.1 x.2) (0,seen3))
def eK.b2 (groups1:List lq) (v2:Int) (seen3:List (Int×Bool)):Option ((Int×List (Int×Bool))⊕(Bool)) :=
 bif (ltZ v2 (groups1.length:Int)) then
 ((idx groups1 v2).bind fun v4 =>
 (bif (eqZ (v4.1.length:Int) 0) then
  some true
 else
  (bif (ltZ 12 (v4.1.length:Int)) then
  some true
  else
  (bif (ltZ v4.2 0) then
   some true
  else
   some (leZ (v4.1.length:Int) v4.2)))).bind fun x =>
 eK.j2 v2 seen3 v4 x)
 else
 (Option.map Sum.inr (bif (ltZ 0 (groups1.length:Int)) then
  some (leZ (groups1.length:Int) 8)
 else
  some false))
def eK (groups1:List lq):Option Bool :=
 bS (fun x=>eK.b2 groups1 x.1 x.2) (0,([]:List (Int×Bool)))
def fY.j1 (v5:Int) (out6:List kj) (v7:da) (r10:eY×Int) (v11:Bool):Option ((Int×List kj)⊕(List kj)) :=
 bif v11 then
 ((app? out6 ([(v7,r10.1.2.1)]:List kj)).bind fun l12 =>
 (z64 (v5+1)).bind fun v13 =>
 some (.inl (v13,l12)))
 else
 ((z64 (v5+1)).bind fun v14 =>
 some (.inl (v14,out6)))
def fY.b1 (claims1:LG) (text2:Bs) (p3:LS) (p4:LM) (v5:Int) (out6:List kj):Option ((Int×List kj)⊕(List kj)) :=
 bif (ltZ v5 (claims1.length:Int)) then
 ((idx claims1 v5).bind fun v7 =>
 (bK v7 p3 p4).bind fun v8 =>
 bif (!v8) then
  ((z64 (v5+1)).bind fun v9 =>
  some (.inl (v9,out6)))
 else
  ((dQ v7.2.1).bind fun r10 =>
  (bif (eqZ r10.2 0) then
  (bif (eqZ r10.1.1 3) then
   some (decide (r10.1.2.2.2=text2))
  else
   some false)
  else
  some false).bind fun x =>
  fY.j1 v5 out6 v7 r10 x))
 else
 some (.inr out6)
def fY (claims1:LG) (text2:Bs) (p3:LS) (p4:LM):Option (List kj) :=
 bS (fun x=>fY.b1 claims1 text2 p3 p4 x.1 x.2) (0,[])
def cmp_Less_int (x1:Int) (y2:Int):Option Bool :=
 (cmp_isNaN_int x1).bind fun i3 =>
 bif i3 then
 ((cmp_isNaN_int y2).bind fun i4 =>
 bif (!i4) then
  some true
 else
  some (ltZ x1 y2))
 else
 some (ltZ x1 y2)
def bg.j1 (i5:Int) (j7:Int) (data8:LI) (v15:Bool):Option ((Int×LI)⊕((Int×LI)⊕LI)) :=
 bif v15 then
 ((z64 (j7-1)).bind fun v16 =>
 (z64 (j7-1)).bind fun v17 =>
 (idx data8 v17).bind fun _18 =>
 (idx data8 v17).bind fun v19 =>
 (idx data8 j7).bind fun _20 =>
 (idx data8 j7).bind fun v21 =>
 (idx data8 j7).bind fun _22 =>
 (idx data8 j7).bind fun v23 =>
 (idx (data8.set j7.toNat v19) v16).bind fun _24 =>
 (idx (data8.set j7.toNat v19) v16).bind fun v25 =>
 (z64 (j7-1)).bind fun v26 =>
 some (.inl (v26,((data8.set j7.toNat v19).set v16.toNat v21))))
 else
 (Option.map Sum.inr ((z64 (i5+1)).bind fun v27 =>
 some (.inl (v27,data8))))
def bg.b1 (a1:Int) (i5:Int) (j7:Int) (data8:LI):Option ((Int×LI)⊕((Int×LI)⊕LI)) :=
 (bif (ltZ a1 j7) then
 ((idx data8 j7).bind fun _9 =>
 (idx data8 j7).bind fun v10 =>
 (z64 (j7-1)).bind fun v11 =>
 (idx data8 v11).bind fun _12 =>
 (idx data8 v11).bind fun v13 =>
 (cmp_Less_int v10 v13).bind fun i14 =>
 some i14)
 else
 some false).bind fun x =>
 bg.j1 i5 j7 data8 x
def bg.b2 (a1:Int) (b2:Int) (i5:Int) (data6:LI):Option ((Int×LI)⊕LI) :=
 bif (ltZ i5 b2) then
 (bS (fun x=>bg.b1 a1 i5 x.1 x.2) (i5,data6))
 else
 some (.inr data6)
def bg (a1:Int) (b2:Int) (data3:LI):Option LI :=
 (z64 (a1+1)).bind fun v4 =>
 bS (fun x=>bg.b2 a1 b2 x.1 x.2) (v4,data3)
def de.b1 (data4:LI) (a5:Int) (b6:Int) (limit7:Int) (wasBalanced8:Bool) (wasPartitioned9:Bool):Option ((Int×Int×Int×Bool×Bool)⊕LI) :=
 (z64 (b6-a5)).bind fun v10 =>
 bif (leZ v10 12) then
 ((bg a5 b6 data4).bind fun i11 =>
 some (.inr i11))
 else
 (bif (eqZ limit7 0) then
  none
 else
  (bif (!wasBalanced8) then
  none
  else
  none))
def de (a1:Int) (b2:Int) (limit3:Int) (data4:LI):Option LI :=
 bS (fun x=>de.b1 data4 x.1 x.2.1 x.2.2.1 x.2.2.2.1 x.2.2.2.2) (a1,b2,limit3,true,true)
def fM (x1:LI):Option LI :=
 (bits_Len (IntKind.u64.wrap (x1.length:Int))).bind fun l2 =>
 (de 0 (x1.length:Int) l2 x1).bind fun i3 =>
 some i3
def slices_Compact_int (l:LI):Option LI:=ET l
def jz (l1:LI):Option LI :=
 (fM l1).bind fun i2 =>
 (slices_Compact_int i2).bind fun i3 =>
 some i3
def fH.b1 (l1:List kj) (v2:Int) (out3:LI):Option ((Int×LI)⊕LI) :=
 bif (ltZ v2 (l1.length:Int)) then
 ((idx l1 v2).bind fun v4 =>
 (app? out3 ([v4.2]:LI)).bind fun l5 =>
 (z64 (v2+1)).bind fun v6 =>
 some (.inl (v6,l5)))
 else
 some (.inr out3)
def fH.j1 (out7:LI):Option LI :=
 (jz out7).bind fun s8 =>
 some s8
def fH (l1:List kj):Option LI :=
 (bS (fun x=>fH.b1 l1 x.1 x.2) (0,[])).bind fun x =>
 fH.j1 x
def gJ (p1:kj) (p2:Int) (p3:Int):Option Bool :=
 bif (eqZ p1.2 p2) then
 some (eqZ p1.1.1 p3)
 else
 some false
def bz.b1 (s1:List kj) (p2:Int) (p3:Int) (v4:Int):Option ((Int)⊕(Int)) :=
 bif (ltZ v4 (s1.length:Int)) then
 ((idx s1 v4).bind fun v5 =>
 (gJ v5 p2 p3).bind fun v'6 =>
 bif v'6 then
  some (.inr v4)
 else
  ((z64 (v4+1)).bind fun v7 =>
  some (.inl v7)))
 else
 some (.inr (-1))
def bz (s1:List kj) (p2:Int) (p3:Int):Option Int :=
 bS (fun x=>bz.b1 s1 p2 p3 x) 0
def cd (s1:List kj) (p2:Int) (p3:Int):Option Bool :=
 (bz s1 p2 p3).bind fun v4 =>
 some (leZ 0 v4)
def gi.b1 (l1:List kj) (g2:lq) (print3:Int) (v4:Int) (out5:LI):Option ((Int×LI)⊕LI) :=
 bif (ltZ v4 (g2.1.length:Int)) then
 ((idx g2.1 v4).bind fun v6 =>
 (cd l1 print3 v6).bind fun v7 =>
 bif v7 then
  ((app? out5 ([v6]:LI)).bind fun l8 =>
  (z64 (v4+1)).bind fun v9 =>
  some (.inl (v9,l8)))
 else
  ((z64 (v4+1)).bind fun v10 =>
  some (.inl (v10,out5))))
 else
 some (.inr out5)
def gi (l1:List kj) (g2:lq) (print3:Int):Option LI :=
 bS (fun x=>gi.b1 l1 g2 print3 x.1 x.2) (0,[])
def ic (g1:lq) (p2:List kj) (p3:Int):Option Bool :=
 (gi p2 g1 p3).bind fun m4 =>
 some (leZ (m4.length:Int) g1.2)
def bN.b1 (s1:List lq) (p2:List kj) (p3:Int) (v4:Int):Option ((Int)⊕(Int)) :=
 bif (ltZ v4 (s1.length:Int)) then
 ((idx s1 v4).bind fun v5 =>
 (ic v5 p2 p3).bind fun v'6 =>
 bif v'6 then
  some (.inr v4)
 else
  ((z64 (v4+1)).bind fun v7 =>
  some (.inl v7)))
 else
 some (.inr (-1))
def bN (s1:List lq) (p2:List kj) (p3:Int):Option Int :=
 bS (fun x=>bN.b1 s1 p2 p3 x) 0
def cy (s1:List lq) (p2:List kj) (p3:Int):Option Bool :=
 (bN s1 p2 p3).bind fun g4 =>
 some (leZ 0 g4)
def fI.b1 (groups2:List lq) (v7:List kj) (p8:LI) (v9:Int) (found10:LI):Option ((Int×LI)⊕LI) :=
 bif (ltZ v9 (p8.length:Int)) then
 ((idx p8 v9).bind fun _11 =>
 (idx p8 v9).bind fun v12 =>
 (cy groups2 v7 v12).bind fun g13 =>
 bif (!g13) then
  ((app? found10 ([v12]:LI)).bind fun l14 =>
  (z64 (v9+1)).bind fun v15 =>
  some (.inl (v15,l14)))
 else
  ((z64 (v9+1)).bind fun v16 =>
  some (.inl (v16,found10))))
 else
 some (.inr found10)
def fI.j1 (found17:LI):Option (Int×Int) :=
 bif (eqZ (found17.length:Int) 0) then
 some (0,23)
 else
 (bif (eqZ (found17.length:Int) 1) then
  ((idx found17 0).bind fun _18 =>
  (idx found17 0).bind fun v19 =>
  some (v19,0))
 else
  some (0,21))
def fI (claims1:LG) (groups2:List lq) (text3:Bs) (p4:LS) (p5:LM):Option (Int×Int) :=
 (eK groups2).bind fun r6 =>
 bif (!r6) then
 some (0,1)
 else
 ((fY claims1 text3 p4 p5).bind fun v7 =>
 ((fH v7).bind fun p8 =>
 bS (fun x=>fI.b1 groups2 v7 p8 x.1 x.2) (0,[])).bind fun x =>
 fI.j1 x)
def fh.j1 (r8:eY×Int) (r9:eY×Int) (v10:Bool):Option Int :=
 bif v10 then
 some 2
 else
 ((bp r8.1 r9.1).bind fun c11 =>
 bif (!c11) then
  some 19
 else
  some 0)
def fh.j2 (a1:da) (b2:da) (v7:Bool):Option Int :=
 bif v7 then
 some 18
 else
 (bif (!eqZ a1.1 b2.1) then
  some 22
 else
  ((dQ a1.2.1).bind fun r8 =>
  (dQ b2.2.1).bind fun r9 =>
  (bif (!eqZ r8.2 0) then
  some true
  else
  some (!eqZ r9.2 0)).bind fun x =>
  fh.j1 r8 r9 x))
def fh (a1:da) (b2:da) (p3:LS) (p4:LM):Option Int :=
 ((bK a1 p3 p4).bind fun v5 =>
 bif (!v5) then
 some true
 else
 ((bK b2 p3 p4).bind fun v6 =>
 some (!v6))).bind fun x =>
 fh.j2 a1 b2 x
def fj.b1 (n1:Int) (p9:LS) (v12:Int):Option ((Int)⊕(Bool)) :=
 bif (ltZ v12 (max n1 0)) then
 (bif (!(cM p9 v12).isSome) then
  some (.inr false)
 else
  ((z64 (v12+1)).bind fun v13 =>
  some (.inl v13)))
 else
 some (.inr true)
def fj (n1:Int) (p2:Int) (p3:Int) (p4:Int) (p5:LS) (p6:LM) (p7:LG) (p8:LC) (p9:LS) (p10:LK):Option Bool :=
 (qM (p9.length<=9223372036854775807)).bind fun _11 =>
 bif (ltZ (p9.length:Int) n1) then
 some false
 else
 (bS (fun x=>fj.b1 n1 p9 x) 0)
def eS:Option Bool :=
 (kT).bind fun n1 =>
 (jq 3 n1.1 n1.2).bind fun n2 =>
 (jq 3 n1.1 n1.2).bind fun n3 =>
 (eO ([103,101,111]:Bs) 1).bind fun t4 =>
 (cD 3 0 (IF t4) n1.1 n1.2).bind fun t5 =>
 (br t5.1 n2.1 n2.2.1 n2.2.2.1 t5.2.1 t5.2.2 n2.2.2.2.1 n2.2.2.2.2.1 n2.2.2.2.2.2.1 n2.2.2.2.2.2.2).bind fun a6 =>
 (eO ([103,101,111]:Bs) 2).bind fun t7 =>
 (cD 3 0 (IF t7) a6.2.2.2.2.2.2.1 a6.2.2.2.2.2.2.2.1).bind fun t8 =>
 (br t8.1 n3.1 n3.2.1 n3.2.2.1 t8.2.1 t8.2.2 n3.2.2.2.1 n3.2.2.2.2.1 n3.2.2.2.2.2.1 n3.2.2.2.2.2.2).bind fun a9 =>
 (eD a6.2.1 a6.2.2.1 a6.2.2.2.1 a9.2.1 a9.2.2.1 a9.2.2.2.1 a9.2.2.2.2.2.2.1 a9.2.2.2.2.2.2.2.1 a6.2.2.2.2.1 a6.2.2.2.2.2.1 a6.2.2.2.2.2.2.2.2.1 a6.2.2.2.2.2.2.2.2.2 a9.2.2.2.2.1 a9.2.2.2.2.2.1 a9.2.2.2.2.2.2.2.2.1 a9.2.2.2.2.2.2.2.2.2).bind fun m10 =>
 (eG (3,4,0,([103,101,111]:Bs))).bind fun t11 =>
 (di 1 t11 m10.2.2.2.2.2.2.2.2.2.2.2.2.2.1 m10.2.2.2.2.2.2.2.2.2.2.2.2.2.2.1).bind fun s12 =>
 (di 2 t11 s12.2.1 s12.2.2).bind fun s13 =>
 (fI ([s12.1,s13.1]:LG) ([(([1,2]:LI),1)]:List lq) ([103,101,111]:Bs) s13.2.1 s13.2.2).bind fun a14 =>
 bif (eqZ a6.1 0) then
 (bif (eqZ a9.1 0) then
  (bif m10.2.2.1 then
  ((fh m10.1 m10.2.1 s13.2.1 s13.2.2).bind fun c15 =>
  bif (eqZ c15 0) then
   (bif (eqZ a14.1 4) then
   (bif (eqZ a14.2 0) then
    ((fj 1 m10.2.2.2.1 m10.2.2.2.2.1 m10.2.2.2.2.2.1 s13.2.1 s13.2.2 m10.2.2.2.2.2.2.2.2.2.1 m10.2.2.2.2.2.2.2.2.2.2.1 m10.2.2.2.2.2.2.2.2.2.2.2.2.2.2.2.1 m10.2.2.2.2.2.2.2.2.2.2.2.2.2.2.2.2.1).bind fun k16 =>
    bif k16 then
    ((fj 2 m10.2.2.2.1 m10.2.2.2.2.1 m10.2.2.2.2.2.1 s13.2.1 s13.2.2 m10.2.2.2.2.2.2.2.2.2.1 m10.2.2.2.2.2.2.2.2.2.2.1 m10.2.2.2.2.2.2.2.2.2.2.2.2.2.2.2.1 m10.2.2.2.2.2.2.2.2.2.2.2.2.2.2.2.2.1).bind fun k17 =>
    some (!k17))
    else
    some false)
   else
    some false)
   else
   some false)
  else
   some false)
  else
  some false)
 else
  some false)
 else
 some false
def aF.j1 (Gr:Gr4) (e6:LE) (most7:Int) (levels8:Int) (n11:Int) (i12:Int) (v13:Bool):Option ((Int×Int)⊕(Int)) :=
 bif v13 then
 ((idx e6 i12).bind fun v14 =>
 (z64 (most7-n11)).bind fun v15 =>
 (z64 (levels8-1)).bind fun v16 =>
 (Gr v14.1 v14.2.1 v14.2.2.1 v14.2.2.2.1 v14.2.2.2.2.1 (v14.2.2.2.2.2.map (Uun 1)) v15 v16).bind fun t17 =>
 (z64 (n11+t17)).bind fun v18 =>
 (z64 (i12+1)).bind fun v19 =>
 some (.inl (v18,v19)))
 else
 some (.inr n11)
def aF.b1 (Gr:Gr4) (e6:LE) (most7:Int) (levels8:Int) (n11:Int) (i12:Int):Option ((Int×Int)⊕(Int)) :=
 (bif (ltZ i12 (e6.length:Int)) then
 some (leZ n11 most7)
 else
 some false).bind fun x =>
 aF.j1 Gr e6 most7 levels8 n11 i12 x
def aF.j2 (Gr:Gr4) (e6:LE) (most7:Int) (levels8:Int) (v9:Bool):Option Int :=
 bif v9 then
 ((z64 (most7+1)).bind fun v10 =>
 some v10)
 else
 (bS (fun x=>aF.b1 Gr e6 most7 levels8 x.1 x.2) (1,0))
def aF.body (Gr:Gr4) (e1:Int) (e2:Int) (e3:Bs) (e4:Bs) (e5:LB) (e6:LE) (most7:Int) (levels8:Int):Option Int :=
 (bif (ltZ levels8 1) then
 some true
 else
 (bif (ltZ 12 (e5.length:Int)) then
  some true
 else
  (bif (ltZ 60 (e3.length:Int)) then
  some true
  else
  some (ltZ 60 (e4.length:Int))))).bind fun x =>
 aF.j2 Gr e6 most7 levels8 x
def aF.rec:Nat->Int->Int->Bs->Bs->LB->LE->Int->Int->Option Int
 | 0=>fun _ _ _ _ _ _ _ _=>none
 | n+1=>aF.body (aF.rec n)
def aF (e1:Int) (e2:Int) (e3:Bs) (e4:Bs) (e5:LB) (e6:LE) (most7:Int) (levels8:Int):Option Int:=aF.rec Fuel.n e1 e2 e3 e4 e5 e6 most7 levels8
def ao.j1 (k6:Int) (v11:Bool):Option ((Int)⊕((Unit)⊕((Int)⊕(Bool)))) :=
 bif v11 then
 some (.inr (.inr (.inr false)))
 else
 ((z64 (k6+1)).bind fun v12 =>
 some (.inl v12))
def ao.j2 (v5:bX) (k6:Int) (v7:Bool):Option ((Int)⊕((Unit)⊕((Int)⊕(Bool)))) :=
 bif v7 then
 (((idx v5.2.2.2.1.2.2.2.1 k6).bind fun v8 =>
 bif (ltZ 3 (v8.2.1.length:Int)) then
  some true
 else
  ((idx v5.2.2.2.1.2.2.2.1 k6).bind fun v9 =>
  bif (ltZ 3 (v9.2.2.2.2.length:Int)) then
  some true
  else
  ((idx v5.2.2.2.1.2.2.2.1 k6).bind fun v10 =>
  some (ltZ 60 (v10.1.length:Int))))).bind fun x =>
 ao.j1 k6 x)
 else
 some (.inr (.inl ()))
def ao.b1 (v5:bX) (k6:Int):Option ((Int)⊕((Unit)⊕((Int)⊕(Bool)))) :=
 (bif (ltZ k6 (v5.2.2.2.1.2.2.2.1.length:Int)) then
 some (ltZ k6 4)
 else
 some false).bind fun x =>
 ao.j2 v5 k6 x
def ao.j3 (v5:bX) (k13:Int) (v14:Bool):Option ((Int)⊕((Unit)⊕((Int)⊕(Bool)))) :=
 bif v14 then
 ((idx v5.2.2.2.1.2.2.2.2.1 k13).bind fun v15 =>
 bif (ltZ 3 (v15.2.length:Int)) then
  some (.inr (.inr (.inr false)))
 else
  ((z64 (k13+1)).bind fun v16 =>
  some (.inl v16)))
 else
 some (.inr (.inl ()))
def ao.b2 (v5:bX) (k13:Int):Option ((Int)⊕((Unit)⊕((Int)⊕(Bool)))) :=
 (bif (ltZ k13 (v5.2.2.2.1.2.2.2.2.1.length:Int)) then
 some (ltZ k13 4)
 else
 some false).bind fun x =>
 ao.j3 v5 k13 x
def ao.j4 (i3:Int) (v18:Bool):Option ((Int)⊕(Bool)) :=
 bif v18 then
 some (.inr false)
 else
 ((z64 (i3+1)).bind fun v19 =>
 some (.inl v19))
def ao.j5 (i3:Int) (v5:bX):Option ((Int)⊕(Bool)) :=
 (bif (ltZ 200 (v5.2.2.2.1.2.2.1.length:Int)) then
 some true
 else
 (bif (ltZ 3 (v5.2.2.2.1.2.2.2.1.length:Int)) then
  some true
 else
  (bif (ltZ 3 (v5.2.2.2.1.2.2.2.2.1.length:Int)) then
  some true
  else
  (bif (ltZ 3 (v5.2.2.2.1.2.2.2.2.2.1.length:Int)) then
   some true
  else
   (bif (ltZ 60 (v5.2.2.2.1.2.2.2.2.2.2.length:Int)) then
   some true
   else
   (bif (ltZ 60 (v5.2.1.length:Int)) then
    some true
   else
    (bif (ltZ 60 (v5.2.2.2.1.1.length:Int)) then
    some true
    else
    (bif (ltZ 12 (v5.2.2.2.2.2.1.length:Int)) then
     some true
    else
     (bif (ltZ 3 (v5.2.2.2.2.1.2.2.1.length:Int)) then
     some true
     else
     (bif (ltZ 60 (v5.2.2.2.2.1.2.1.length:Int)) then
      some true
     else
      ((aF v5.2.2.2.2.1.2.2.2.2.1 v5.2.2.2.2.1.2.2.2.2.2.1 v5.2.2.2.2.1.2.2.2.2.2.2.1 v5.2.2.2.2.1.2.2.2.2.2.2.2.1 v5.2.2.2.2.1.2.2.2.2.2.2.2.2.1 (v5.2.2.2.2.1.2.2.2.2.2.2.2.2.2.map (Uun 1)) 20 14).bind fun t17 =>
      some (ltZ 20 t17)))))))))))).bind fun x =>
 ao.j4 i3 x
def ao.j6 (i3:Int) (v5:bX):Option ((Int)⊕(Bool)) :=
 (bS (fun x=>ao.b2 v5 x) 0).bind fun x=>match x with
 | .inl x =>
 ao.j5 i3 v5
 | .inr r=>some r
def ao.j7 (l1:LF) (n2:Int) (i3:Int) (v4:Bool):Option ((Int)⊕(Bool)) :=
 bif v4 then
 ((idx l1 i3).bind fun v5 =>
 (bS (fun x=>ao.b1 v5 x) 0).bind fun x=>match x with
 | .inl x =>
  ao.j6 i3 v5
 | .inr r=>some r)
 else
 some (.inr (leZ (l1.length:Int) n2))
def ao.b3 (l1:LF) (n2:Int) (i3:Int):Option ((Int)⊕(Bool)) :=
 (bif (ltZ i3 (l1.length:Int)) then
 some (leZ i3 n2)
 else
 some false).bind fun x =>
 ao.j7 l1 n2 i3 x
def ao (l1:LF) (n2:Int):Option Bool :=
 bS (fun x=>ao.b3 l1 n2 x) 0
def lQ.j1 (key1:Int) (v4:Bool):Option (Int×Int×Bool×Int×Int×LB×LK) :=
 bif v4 then
 none
 else
 some (0,key1,false,0,0,[],([]:LK))
def lQ (key1:Int) (p2:LS) (p3:LM):Option (Int×Int×Bool×Int×Int×LB×LK) :=
 (bif (ltZ key1 0) then
 some true
 else
 some (leZ 200 key1)).bind fun x =>
 lQ.j1 key1 x
def fC (text1:Bs) (b2:Int) (b3:Bool) (b4:Int) (b5:Int) (p6:LS) (p7:LM) (p8:LB) (p9:LK):Option (Int×Int×Int×Bool×Int×Int×LB×LS×LM×LK) :=
 (er text1).bind fun k10 =>
 bif (!k10.2) then
 some (0,2,b2,b3,b4,b5,p8,p6,p7,p9)
 else
 (bif (ltZ 20000 (text1.length:Int)) then
  some (0,3,b2,b3,b4,b5,p8,p6,p7,p9)
 else
  (bif (leZ 200000 (p8.length:Int)) then
  some (0,6,b2,b3,b4,b5,p8,p6,p7,p9)
  else
  (bif (!(cM p9 k10.1).isSome) then
   ((app? p8 ([text1]:LB)).bind fun l11 =>
   some ((p8.length:Int),0,b2,b3,b4,b5,l11,p6,p7,(gv p9 k10.1 (p8.length:Int))))
  else
   ((app? p8 ([text1]:LB)).bind fun l12 =>
   some ((p8.length:Int),0,b2,b3,b4,b5,l12,p6,p7,p9)))))
def jA (b1:Int) (b2:Bool) (b3:Int) (b4:Int) (p5:LS) (p6:LM) (p7:LB) (p8:LK):Option Int :=
 some (p7.length:Int)
def gU (c1:eY) (b2:Int) (b3:Bool) (b4:Int) (b5:Int) (p6:LS) (p7:LM) (p8:LB) (p9:LK):Option (da×Int×Int×Bool×Int×Int×LS×LM×LB×LK) :=
 (eG c1).bind fun t10 =>
 (di b2 t10 p6 p7).bind fun s11 =>
 some (s11.1,0,b2,b3,b4,b5,s11.2.1,s11.2.2,p8,p9)
def cj.j1 (key1:Bs) (n2:Int) (b3:Int) (b4:Bool) (b5:Int) (b6:Int) (p7:LS) (p8:LM) (p9:LB) (p10:LK) (v12:Bool):Option (da×Int×Int×Bool×Int×Int×LS×LM×LB×LK) :=
 bif v12 then
 some ((0,([]:Bs),0),5,b3,b4,b5,b6,p7,p8,p9,p10)
 else
 ((gU (2,n2,0,key1) b3 b4 b5 b6 p7 p8 p9 p10).bind fun s13 =>
 some (s13.1,s13.2.1,s13.2.2.1,s13.2.2.2.1,s13.2.2.2.2.1,s13.2.2.2.2.2.1,s13.2.2.2.2.2.2.1,s13.2.2.2.2.2.2.2.1,s13.2.2.2.2.2.2.2.2.1,s13.2.2.2.2.2.2.2.2.2))
def cj.j2 (key1:Bs) (n2:Int) (b3:Int) (b4:Bool) (b5:Int) (b6:Int) (p7:LS) (p8:LM) (p9:LB) (p10:LK) (v11:Bool):Option (da×Int×Int×Bool×Int×Int×LS×LM×LB×LK) :=
 bif v11 then
 some ((0,([]:Bs),0),1,b3,b4,b5,b6,p7,p8,p9,p10)
 else
 ((bif (cM p10 key1).isSome then
  some (ltZ ((cM p10 key1).getD 0) n2)
 else
  some false).bind fun x =>
 cj.j1 key1 n2 b3 b4 b5 b6 p7 p8 p9 p10 x)
def cj (key1:Bs) (n2:Int) (b3:Int) (b4:Bool) (b5:Int) (b6:Int) (p7:LS) (p8:LM) (p9:LB) (p10:LK):Option (da×Int×Int×Bool×Int×Int×LS×LM×LB×LK) :=
 (bif (ltZ n2 0) then
 some true
 else
 (bif (ltZ (p9.length:Int) n2) then
  some true
 else
  some (ltZ 20000 (key1.length:Int)))).bind fun x =>
 cj.j2 key1 n2 b3 b4 b5 b6 p7 p8 p9 p10 x
def gV (f1:bX) (p2:Bs) (p3:Int) (p4:Int) (p5:Int):Option Bool :=
 bif (eqZ f1.1 0) then
 (bif (decide (f1.2.2.2.1.1=p2)) then
  some ((eqZ f1.2.2.2.1.2.1.1 p3 && (eqZ f1.2.2.2.1.2.1.2.1 p4 && eqZ f1.2.2.2.1.2.1.2.2 p5)))
 else
  some false)
 else
 some false
def bf.b1 (s1:LF) (p2:Bs) (p3:Int) (p4:Int) (p5:Int) (v6:Int):Option ((Int)⊕(Int)) :=
 bif (ltZ v6 (s1.length:Int)) then
 ((idx s1 v6).bind fun v7 =>
 (gV (IF v7) p2 p3 p4 p5).bind fun v'8 =>
 bif v'8 then
  some (.inr v6)
 else
  ((z64 (v6+1)).bind fun v9 =>
  some (.inl v9)))
 else
 some (.inr (-1))
def bf (s1:LF) (p2:Bs) (p3:Int) (p4:Int) (p5:Int):Option Int :=
 bS (fun x=>bf.b1 s1 p2 p3 p4 p5 x) 0
def gB (facts1:LF) (s2:Bs) (p3:cZ):Option (ff×Int×Bool) :=
 (bf facts1 s2 p3.1 p3.2.1 p3.2.2).bind fun f4 =>
 bif (ltZ f4 0) then
 some ((([]:Bs),(0,0,0),([]:Bs),[],[],[],([]:Bs)),0,false)
 else
 ((idx facts1 f4).bind fun v5 =>
 some (v5.2.2.2.1,f4,true))
def fe.j1 (i7:Int) (v8:bX) (v9:Bool):Option ((Int)⊕(bX×Bool)) :=
 bif v9 then
 some (.inr ((IF v8),true))
 else
 ((z64 (i7-1)).bind fun v10 =>
 some (.inl v10))
def fe.b1 (facts1:LF) (one2:Int) (other3:Int) (s4:Bs) (p5:cZ) (i7:Int):Option ((Int)⊕(bX×Bool)) :=
 bif (leZ 0 i7) then
 ((idx facts1 i7).bind fun v8 =>
 (bif (eqZ v8.1 one2) then
  (bif (decide (v8.2.1=s4)) then
  some ((eqZ v8.2.2.1.1 p5.1 && (eqZ v8.2.2.1.2.1 p5.2.1 && eqZ v8.2.2.1.2.2 p5.2.2)))
  else
  some false)
 else
  (bif (eqZ v8.1 other3) then
  (bif (decide (v8.2.1=s4)) then
   some ((eqZ v8.2.2.1.1 p5.1 && (eqZ v8.2.2.1.2.1 p5.2.1 && eqZ v8.2.2.1.2.2 p5.2.2)))
  else
   some false)
  else
  some false)).bind fun x =>
 fe.j1 i7 v8 x)
 else
 some (.inr ((0,([]:Bs),(0,0,0),(([]:Bs),(0,0,0),([]:Bs),[],[],[],([]:Bs)),(0,([]:Bs),[],([]:Bs),0,0,([]:Bs),([]:Bs),[],[]),[],0,0,0,0),false))
def fe (facts1:LF) (one2:Int) (other3:Int) (s4:Bs) (p5:cZ):Option (bX×Bool) :=
 (z64 ((facts1.length:Int)-1)).bind fun v6 =>
 bS (fun x=>fe.b1 facts1 one2 other3 s4 p5 x) v6
def jO (facts1:LF) (s2:Bs) (p3:cZ):Option Bool :=
 (fe facts1 1 2 s2 p3).bind fun l4 =>
 bif l4.2 then
 some (eqZ l4.1.1 1)
 else
 some false
def lr (r1:bB) (p2:cZ):Option Bool :=
 (cw r1.1 p2).bind fun c3 =>
 bif (leZ c3 0) then
 ((cw p2 r1.2).bind fun c4 =>
 some (ltZ c4 0))
 else
 some false
def jB (r1:bB) (p2:Int) (p3:Int) (p4:Int):Option Bool :=
 (lr r1 (p2,p3,p4)).bind fun i5 =>
 some i5
def bF.b1 (s1:List bB) (p2:Int) (p3:Int) (p4:Int) (v5:Int):Option ((Int)⊕(Int)) :=
 bif (ltZ v5 (s1.length:Int)) then
 ((idx s1 v5).bind fun v6 =>
 (jB v6 p2 p3 p4).bind fun v'7 =>
 bif v'7 then
  some (.inr v5)
 else
  ((z64 (v5+1)).bind fun v8 =>
  some (.inl v8)))
 else
 some (.inr (-1))
def bF (s1:List bB) (p2:Int) (p3:Int) (p4:Int):Option Int :=
 bS (fun x=>bF.b1 s1 p2 p3 p4 x) 0
def cz (s1:List bB) (p2:Int) (p3:Int) (p4:Int):Option Bool :=
 (bF s1 p2 p3 p4).bind fun v5 =>
 some (leZ 0 v5)
def kC (l1:List bB) (p2:cZ):Option Bool :=
 (cz l1 p2.1 p2.2.1 p2.2.2).bind fun r3 =>
 some r3
def dL.j1 (v4:Int) (out5:LI) (v8:Bool):Option ((Int×LI)⊕LI) :=
 bif v8 then
 ((app? out5 ([v4]:LI)).bind fun l9 =>
 (z64 (v4+1)).bind fun v10 =>
 some (.inl (v10,l9)))
 else
 ((z64 (v4+1)).bind fun v11 =>
 some (.inl (v11,out5)))
def dL.b1 (facts1:LF) (s2:Bs) (p3:cZ) (v4:Int) (out5:LI):Option ((Int×LI)⊕LI) :=
 bif (ltZ v4 (facts1.length:Int)) then
 ((idx facts1 v4).bind fun v6 =>
 (bif (eqZ v6.1 3) then
  (bif (decide (v6.2.2.2.2.1.2.1=s2)) then
  ((kC v6.2.2.2.2.1.2.2.1 p3).bind fun h7 =>
  some h7)
  else
  some false)
 else
  some false).bind fun x =>
 dL.j1 v4 out5 x)
 else
 some (.inr out5)
def dL (facts1:LF) (s2:Bs) (p3:cZ):Option LI :=
 bS (fun x=>dL.b1 facts1 s2 p3 x.1 x.2) (0,[])
def je (facts1:LF) (s2:Bs) (p3:cZ):Option (Int×Bool) :=
 (fe facts1 7 7 s2 p3).bind fun l4 =>
 some (l4.1.2.2.2.2.2.2.2.2.1,l4.2)
def lu (f1:bX) (s2:Bs):Option Bool :=
 bif (eqZ f1.1 5) then
 some (decide (f1.2.1=s2))
 else
 (bif (eqZ f1.1 4) then
  some (decide (f1.2.1=s2))
 else
  some false)
def jf (f1:bX) (p2:Bs):Option Bool :=
 (lu (IF f1) p2).bind fun o3 =>
 some o3
def iM.b1 (facts1:LF) (p2:Bs) (i4:Int):Option ((Int)⊕(Int)) :=
 bif (leZ 0 i4) then
 ((idx facts1 i4).bind fun v5 =>
 (jf (IF v5) p2).bind fun v'6 =>
 bif v'6 then
  some (.inr i4)
 else
  ((z64 (i4-1)).bind fun v7 =>
  some (.inl v7)))
 else
 some (.inr (-1))
def iM (facts1:LF) (p2:Bs):Option Int :=
 (z64 ((facts1.length:Int)-1)).bind fun v3 =>
 bS (fun x=>iM.b1 facts1 p2 x) v3
def fD (s1:LI):Option LI :=
 po s1 (
 some []) (
 (app? ([]:LI) s1).bind fun l2 =>
 some l2)
def jP (facts1:LF) (s2:Bs):Option (LI×Int×Bool) :=
 (iM facts1 s2).bind fun l3 =>
 bif (ltZ l3 0) then
 some ([],0,false)
 else
 ((idx facts1 l3).bind fun v4 =>
 (fD v4.2.2.2.2.2.1).bind fun i5 =>
 (idx facts1 l3).bind fun v6 =>
 some (i5,v6.2.2.2.2.2.2.1,true))
def ef (f1:bX):Option Int :=
 (dj (IF f1)).bind fun t2 =>
 bif (!eqZ t2.2 0) then
 some 2
 else
 some 21
def eh (f1:bX):Option Int :=
 (dj (IF f1)).bind fun t2 =>
 bif (!eqZ t2.2 0) then
 some 2
 else
 some 0
def ak.b1 (l1:LF) (i13:Int) (b14:Int) (b15:Bool) (b16:Int) (b17:Int) (v18:Int) (v19:Int) (v20:Int) (log21:LF) (v22:LS) (v23:LM) (v24:LB) (v25:LK) (v26:LG) (v27:LC) (v28:LS) (v29:LK):Option ((Int×Int×Bool×Int×Int×Int×Int×Int×LF×LS×LM×LB×LK×LG×LC×LS×LK)⊕(LF×Int×Bool×Int×Int×Int×Int×Int×LS×LM×LB×LK×LG×LC×LS×LK)) :=
 bif (ltZ i13 (l1.length:Int)) then
 ((idx l1 i13).bind fun v30 =>
 (dj (IF v30)).bind fun t31 =>
 bif (eqZ t31.2 0) then
  ((fC t31.1 b14 b15 b16 b17 v22 v23 v24 v25).bind fun a32 =>
  (idx l1 i13).bind fun v33 =>
  (app? log21 ([(IF v33)]:LF)).bind fun l34 =>
  (z64 (i13+1)).bind fun v35 =>
  some (.inl (v35,a32.2.2.1,a32.2.2.2.1,a32.2.2.2.2.1,a32.2.2.2.2.2.1,v18,v19,v20,l34,a32.2.2.2.2.2.2.2.1,a32.2.2.2.2.2.2.2.2.1,a32.2.2.2.2.2.2.1,a32.2.2.2.2.2.2.2.2.2,v26,v27,v28,v29)))
 else
  ((z64 (i13+1)).bind fun v36 =>
  some (.inl (v36,b14,b15,b16,b17,v18,v19,v20,log21,v22,v23,v24,v25,v26,v27,v28,v29))))
 else
 some (.inr (log21,b14,b15,b16,b17,v18,v19,v20,v22,v23,v24,v25,v26,v27,v28,v29))
def ak.b2 (f2:bX) (n3:Int) (log37:LF) (there54:Bool) (i55:Int):Option ((Bool×Int)⊕(Bool)) :=
 bif (ltZ i55 n3) then
 (bif there54 then
  ((z64 (i55+1)).bind fun v56 =>
  some (.inl (true,v56)))
 else
  ((idx log37 i55).bind fun v57 =>
  (gh (IF v57)).bind fun k58 =>
  (gh (IF f2)).bind fun k59 =>
  (z64 (i55+1)).bind fun v60 =>
  some (.inl ((decide (k58=k59)),v60))))
 else
 some (.inr there54)
def ak.j1 (f2:bX) (l64:LF) (name65:Bs) (version66:Int) (version67:Int) (version68:Int) (v70:Bool):Option Bool :=
 bif v70 then
 ((jO l64 name65 (version66,version67,version68)).bind fun y71 =>
 some (!y71))
 else
 (bif (eqZ f2.1 3) then
  ((dL l64 f2.2.2.2.2.1.2.1 (version66,version67,version68)).bind fun a72 =>
  some (eqZ (a72.length:Int) 0))
 else
  (bif (eqZ f2.1 7) then
  ((je l64 name65 (version66,version67,version68)).bind fun v73 =>
  some (!v73.2))
  else
  ((jP l64 name65).bind fun o74 =>
  some (!o74.2.2))))
def ak.j2 (f2:bX) (n3:Int) (t4:Bool) (ok75:Bool) (v81:Bool) (v82:Int) (v83:Int) (v84:Int) (v85:LS) (v86:LM) (v87:LG) (v88:LC) (v89:LS) (v90:LK):Option Bool :=
 bif v81 then
 some false
 else
 (bif t4 then
  (bif ok75 then
  ((cD 3 n3 (IF f2) v85 v86).bind fun t91 =>
  (br t91.1 v82 v83 v84 t91.2.1 t91.2.2 v87 v88 v89 v90).bind fun a92 =>
  (eh (IF f2)).bind fun t93 =>
  some (eqZ a92.1 t93))
  else
  some false)
 else
  some false)
def ak.j3 (f2:bX) (n3:Int) (t4:Bool) (v42:Int) (v43:Int) (v44:Int) (v49:LG) (v50:LC) (v51:LS) (v52:LK) (a63:da×Int×Int×Bool×Int×Int×LS×LM×LB×LK) (ok75:Bool):Option Bool :=
 ((br a63.1 v42 v43 v44 a63.2.2.2.2.2.2.1 a63.2.2.2.2.2.2.2.1 v49 v50 v51 v52).bind fun a76 =>
 bif (!eqZ a76.1 0) then
 some (true,a76.2.1,a76.2.2.1,a76.2.2.2.1,a76.2.2.2.2.2.2.1,a76.2.2.2.2.2.2.2.1,a76.2.2.2.2.1,a76.2.2.2.2.2.1,a76.2.2.2.2.2.2.2.2.1,a76.2.2.2.2.2.2.2.2.2)
 else
 (bif (ltZ 0 n3) then
  ((z64 (n3-1)).bind fun v77 =>
  (cD 3 v77 (IF f2) a76.2.2.2.2.2.2.1 a76.2.2.2.2.2.2.2.1).bind fun t78 =>
  (br t78.1 a76.2.1 a76.2.2.1 a76.2.2.2.1 t78.2.1 t78.2.2 a76.2.2.2.2.1 a76.2.2.2.2.2.1 a76.2.2.2.2.2.2.2.2.1 a76.2.2.2.2.2.2.2.2.2).bind fun a79 =>
  (ef (IF f2)).bind fun t80 =>
  some ((!eqZ a79.1 t80),a79.2.1,a79.2.2.1,a79.2.2.2.1,a79.2.2.2.2.2.2.1,a79.2.2.2.2.2.2.2.1,a79.2.2.2.2.1,a79.2.2.2.2.2.1,a79.2.2.2.2.2.2.2.2.1,a79.2.2.2.2.2.2.2.2.2))
 else
  some (false,a76.2.1,a76.2.2.1,a76.2.2.2.1,a76.2.2.2.2.2.2.1,a76.2.2.2.2.2.2.2.1,a76.2.2.2.2.1,a76.2.2.2.2.2.1,a76.2.2.2.2.2.2.2.2.1,a76.2.2.2.2.2.2.2.2.2))).bind fun x =>
 ak.j2 f2 n3 t4 ok75 x.1 x.2.1 x.2.2.1 x.2.2.2.1 x.2.2.2.2.1 x.2.2.2.2.2.1 x.2.2.2.2.2.2.1 x.2.2.2.2.2.2.2.1 x.2.2.2.2.2.2.2.2.1 x.2.2.2.2.2.2.2.2.2
def ak.j4 (f2:bX) (n3:Int) (t4:Bool) (v42:Int) (v43:Int) (v44:Int) (v49:LG) (v50:LC) (v51:LS) (v52:LK) (a63:da×Int×Int×Bool×Int×Int×LS×LM×LB×LK) (l64:LF) (name65:Bs) (version66:Int) (version67:Int) (version68:Int):Option Bool :=
 (bif (eqZ f2.1 0) then
 ((gB l64 name65 (version66,version67,version68)).bind fun r69 =>
 some (!r69.2.2))
 else
 ((bif (eqZ f2.1 1) then
  some (eqZ f2.1 1)
 else
  some (eqZ f2.1 2)).bind fun x =>
 ak.j1 f2 l64 name65 version66 version67 version68 x)).bind fun x =>
 ak.j3 f2 n3 t4 v42 v43 v44 v49 v50 v51 v52 a63 x
def ak.j5 (f2:bX) (n3:Int) (t4:Bool) (log37:LF) (b38:Int) (b39:Bool) (b40:Int) (b41:Int) (v42:Int) (v43:Int) (v44:Int) (v45:LS) (v46:LM) (v47:LB) (v48:LK) (v49:LG) (v50:LC) (v51:LS) (v52:LK) (there61:Bool):Option Bool :=
 (gh (IF f2)).bind fun k62 =>
 (cj k62 n3 b38 b39 b40 b41 v45 v46 v47 v48).bind fun a63 =>
 bif ((eqZ a63.2.1 0) == there61) then
 some false
 else
 (bif there61 then
  some t4
 else
  ((cut log37 0 n3).bind fun l64 =>
  (bif (eqZ f2.1 0) then
  some (f2.2.2.2.1.1,f2.2.2.2.1.2.1.1,f2.2.2.2.1.2.1.2.1,f2.2.2.2.1.2.1.2.2)
  else
  some (f2.2.1,f2.2.2.1.1,f2.2.2.1.2.1,f2.2.2.1.2.2)).bind fun x =>
  ak.j4 f2 n3 t4 v42 v43 v44 v49 v50 v51 v52 a63 l64 x.1 x.2.1 x.2.2.1 x.2.2.2))
def ak.j6 (f2:bX) (n3:Int) (t4:Bool) (log37:LF) (b38:Int) (b39:Bool) (b40:Int) (b41:Int) (v42:Int) (v43:Int) (v44:Int) (v45:LS) (v46:LM) (v47:LB) (v48:LK) (v49:LG) (v50:LC) (v51:LS) (v52:LK):Option Bool :=
 (jA b38 b39 b40 b41 v45 v46 v47 v48).bind fun l53 =>
 bif (!eqZ l53 (log37.length:Int)) then
 some false
 else
 (bif (ltZ (log37.length:Int) n3) then
  some t4
 else
  ((bS (fun x=>ak.b2 f2 n3 log37 x.1 x.2) (false,0)).bind fun x =>
  ak.j5 f2 n3 t4 log37 b38 b39 b40 b41 v42 v43 v44 v45 v46 v47 v48 v49 v50 v51 v52 x))
def ak.j7 (l1:LF) (f2:bX) (n3:Int) (t4:Bool) (n9:LS×LM) (n10:Int×Int×Bool×Int×Int×LB×LK) (n11:Int×Int×Int×LG×LC×LS×LK) (v12:Bool):Option Bool :=
 bif v12 then
 some false
 else
 ((bS (fun x=>ak.b1 l1 x.1 x.2.1 x.2.2.1 x.2.2.2.1 x.2.2.2.2.1 x.2.2.2.2.2.1 x.2.2.2.2.2.2.1 x.2.2.2.2.2.2.2.1 x.2.2.2.2.2.2.2.2.1 x.2.2.2.2.2.2.2.2.2.1 x.2.2.2.2.2.2.2.2.2.2.1 x.2.2.2.2.2.2.2.2.2.2.2.1 x.2.2.2.2.2.2.2.2.2.2.2.2.1 x.2.2.2.2.2.2.2.2.2.2.2.2.2.1 x.2.2.2.2.2.2.2.2.2.2.2.2.2.2.1 x.2.2.2.2.2.2.2.2.2.2.2.2.2.2.2.1 x.2.2.2.2.2.2.2.2.2.2.2.2.2.2.2.2) (0,n10.2.1,n10.2.2.1,n10.2.2.2.1,n10.2.2.2.2.1,n11.1,n11.2.1,n11.2.2.1,[],n9.1,n9.2,n10.2.2.2.2.2.1,n10.2.2.2.2.2.2,n11.2.2.2.1,n11.2.2.2.2.1,n11.2.2.2.2.2.1,n11.2.2.2.2.2.2)).bind fun x =>
 ak.j6 f2 n3 t4 x.1 x.2.1 x.2.2.1 x.2.2.2.1 x.2.2.2.2.1 x.2.2.2.2.2.1 x.2.2.2.2.2.2.1 x.2.2.2.2.2.2.2.1 x.2.2.2.2.2.2.2.2.1 x.2.2.2.2.2.2.2.2.2.1 x.2.2.2.2.2.2.2.2.2.2.1 x.2.2.2.2.2.2.2.2.2.2.2.1 x.2.2.2.2.2.2.2.2.2.2.2.2.1 x.2.2.2.2.2.2.2.2.2.2.2.2.2.1 x.2.2.2.2.2.2.2.2.2.2.2.2.2.2.1 x.2.2.2.2.2.2.2.2.2.2.2.2.2.2.2)
def ak.j8 (l1:LF) (f2:bX) (n3:Int) (t4:Bool) (v8:Bool):Option Bool :=
 bif v8 then
 some t4
 else
 ((kT).bind fun n9 =>
 (lQ 3 n9.1 n9.2).bind fun n10 =>
 (jq 3 n9.1 n9.2).bind fun n11 =>
 (bif (!eqZ n10.1 0) then
  some true
 else
  some false).bind fun x =>
 ak.j7 l1 f2 n3 t4 n9 n10 n11 x)
def ak (l1:LF) (f2:bX) (n3:Int):Option Bool :=
 (eS).bind fun t4 =>
 ((ao l1 10).bind fun t5 =>
 bif (!t5) then
 some true
 else
 ((ao ([(IF f2)]:LF) 1).bind fun t6 =>
 bif (!t6) then
  some true
 else
  ((bV (IF f2)).bind fun r7 =>
  bif (!r7) then
  some true
  else
  some (ltZ n3 0)))).bind fun x =>
 ak.j8 l1 f2 n3 t4 x
end
end Go.Proofs.YtkpefpjpadahiaaGreatDoor
