import Derived.Test.YtaocfjifacnokaaGreatE5
import Derived.Test.YtaocfjifacnokaaGreatE6
import Derived.Test.YtaocfjifacnokaaGreatProg
import Derived.KernelRfl
namespace Go.Proofs.YtaocfjifacnokaaGreat
open Go.Lad
set_option linter.unusedVariables false
abbrev aK:Type:=Int × List ab
abbrev b9:Type:=Bs × aK
abbrev dS:Type:=Int × Int × Bs × Bs × (List Bs) × List cN
abbrev fW:Type:=Bs × Bool × (List ab) × aK × Int × dS
abbrev CM:Type:=(List ab) × (List cN) × List cN
abbrev df:Type:=Bs × (List Bs) × (List ab) × (List cN) × (List fW) × Bool × CM
abbrev gD:Type:=Bs × (List aK) × aK × Int
abbrev bH:Type:=Bs × List gD
abbrev Hr:Type:=df × List bH
noncomputable section
abbrev LF:Type:=List b9
abbrev LE:Type:=List dS
abbrev LU:Type:=List fW
abbrev LA:Type:=List bH
abbrev LT:Type:=List aK
abbrev LB:Type:=List Bs
abbrev Gr1:Type:=Int → LF → Int → LF → Option Bool
abbrev Gr2:Type:=Int → LF → Int → LF → Option (aK × Bool)
abbrev Gr3:Type:=Int → Int → Bs → Bs → LB → LE → Int → Option Bool
abbrev Gr4:Type:=Int → LF → Int → Option Bool
abbrev Gr5:Type:=LF → Int → Int → Bs → Bs → LB → LE → Bs → LB → LF → LE → LU → Bool → LF → LE → LE → Int → (List (Bs × bH)) → Option (aK × Int × Bs × (LB) × (LF) × (LE) × (LU) × Bool × (LF) × (LE) × (LE) × Int × List (Bs × bH))
abbrev Gr6:Type:=LF → Int → Int → Bs → Bs → LB → LE → Bs → Bool → Int → Option (aK × Int × Bs × Bool × Int)
abbrev Gr7:Type:=Bs → LB → LF → LE → LU → Bool → LF → LE → LE → LA → LF → Int → Int → Bs → Bs → LB → LE → Option (aK × Int × Int)
abbrev Gr8:Type:=Int → LF → Int → Int → Option Int
abbrev Gr9:Type:=Int → Int → Bs → Bs → LB → LE → Int → Int → Option Int
variable [Fuel]
def dm (l1:LF):Option aK :=
 some (2,(l1.map (Umk 0)))
def fp (c1:Int):Option Bool :=
 bif (leZ 97 c1) then
 some (leZ c1 122)
 else
 some false
def ig (c1:Int):Option Bool :=
 bif (leZ 48 c1) then
 some (leZ c1 57)
 else
 some false
def gE (c1:Int):Option Bool :=
 (fp c1).bind fun l2 =>
 bif l2 then
 some true
 else
 ((ig c1).bind fun d3 =>
 some d3)
def dZ.j1 (n2:Int) (v5:Bool):Option ((Int) ⊕ (Int)) :=
 bif v5 then
 ((z64 (n2 + 1)).bind fun v6 =>
 some (.inl v6))
 else
 some (.inr n2)
def dZ.b1 (s1:Bs) (n2:Int):Option ((Int) ⊕ (Int)) :=
 (bif (ltZ n2 (s1.length:Int)) then
 ((bAt s1 n2).bind fun c3 =>
 (gE c3).bind fun v'4 =>
 some v'4)
 else
 some false).bind fun x =>
 dZ.j1 n2 x
def dZ (s1:Bs):Option Int :=
 bO (fun x=>dZ.b1 s1 x) 0
def eT.j1 (s1:Bs) (v4:Bool):Option Bool :=
 bif v4 then
 some false
 else
 ((dZ s1).bind fun s5 =>
 some (eqZ s5 (s1.length:Int)))
def eT (s1:Bs):Option Bool :=
 (bif (decide (s1 = ([]:Bs))) then
 some true
 else
 ((bAt s1 0).bind fun c2 =>
 (fp c2).bind fun l3 =>
 bif (!l3) then
  some true
 else
  some (ltZ 20 (s1.length:Int)))).bind fun x =>
 eT.j1 s1 x
def strings_Contains (s:Bs) (sub:Bs):Option Bool:=mH s sub
def cZ (s1:Bs):Option Bool :=
 (eT s1).bind fun w2 =>
 bif w2 then
 ((cat? ([32]:Bs) s1).bind fun s3 =>
 (cat? s3 ([32]:Bs)).bind fun s4 =>
 (strings_Contains ([32,97,110,100,32,98,97,99,107,32,98,111,111,108,32,99,108,111,99,107,32,101,108,115,101,32,102,97,108,115,101,32,102,105,108,101,115,32,102,110,32,102,111,114,119,97,114,100,32,103,101,116,32,105,102,32,105,110,32,105,110,116,32,108,101,116,32,109,111,100,117,108,101,32,109,111,118,101,32,110,101,116,32,110,111,116,32,111,114,32,112,117,98,32,115,101,99,114,101,116,115,32,115,101,116,32,116,104,101,110,32,116,114,117,101,32,117,115,101,32,118,97,114,32]:Bs) s4).bind fun c5 =>
 some (!c5))
 else
 some false
def aT.j1 (v5:Int) (v14:Bool):Option ((Int) ⊕ (Bool)) :=
 bif v14 then
 some (.inr false)
 else
 ((z64 (v5 + 1)).bind fun v15 =>
 some (.inl v15))
def aT.b1 (Gr:Gr4) (t2:LF) (depth3:Int) (v5:Int):Option ((Int) ⊕ (Bool)) :=
 bif (ltZ v5 (t2.length:Int)) then
 ((idx t2 v5).bind fun v6 =>
 ((cZ v6.1).bind fun n7 =>
 bif (!n7) then
  some true
 else
  (bif (ltZ 0 v5) then
  ((z64 (v5 - 1)).bind fun v8 =>
  (idx t2 v8).bind fun v9 =>
  bif (Op.bytesLess v6.1 v9.1 || decide (v6.1 = v9.1)) then
   some true
  else
   ((z64 (depth3 - 1)).bind fun v10 =>
   (Gr v6.2.1 (v6.2.2.map (Uun 0)) v10).bind fun r11 =>
   some (!r11)))
  else
  ((z64 (depth3 - 1)).bind fun v12 =>
  (Gr v6.2.1 (v6.2.2.map (Uun 0)) v12).bind fun r13 =>
  some (!r13)))).bind fun x =>
 aT.j1 v5 x)
 else
 some (.inr true)
def aT.j2 (Gr:Gr4) (t2:LF) (depth3:Int) (v4:Bool):Option Bool :=
 bif v4 then
 some false
 else
 (bO (fun x=>aT.b1 Gr t2 depth3 x) 0)
def aT.body (Gr:Gr4) (t1:Int) (t2:LF) (depth3:Int):Option Bool :=
 (bif (eqZ depth3 0) then
 some true
 else
 (bif (ltZ t1 0) then
  some true
 else
  (bif (leZ 3 t1) then
  some true
  else
  (bif (ltZ 8 (t2.length:Int)) then
   some true
  else
   (bif (!eqZ t1 2) then
   some (ltZ 0 (t2.length:Int))
   else
   some false))))).bind fun x =>
 aT.j2 Gr t2 depth3 x
def aT.rec:Nat → Int → LF → Int → Option Bool
 | 0=>fun _ _ _=>none
 | n + 1=>aT.body (aT.rec n)
def aT (t1:Int) (t2:LF) (depth3:Int):Option Bool:=aT.rec Fuel.n t1 t2 depth3
def cL (t1:Int) (t2:LF):Option Bool :=
 (aT t1 t2 4).bind fun r3 =>
 some r3
def bI (t1:Int) (t2:LF):Option Bool :=
 (cL t1 t2).bind fun r3 =>
 some r3
def cT (s1:LF):Option (LF) :=
 some s1
def bR.r1 (name2:Bs) (i4:Int) (f5:b9):Option ((Unit) ⊕ (aK × Bool)) :=
 bif (decide (f5.1 = name2)) then
 some (.inr ((f5.2.1,((f5.2.2.map (Uun 0)).map (Umk 0))),true))
 else
 some (.inl ())
def bR.j1:Option (aK × Bool) :=
 some ((0,[]),false)
def bR (l1:LF) (name2:Bs):Option (aK × Bool) :=
 (cT l1).bind fun f3 =>
 (Hq f3).bind fun xs6 =>
 (oF (fun _ r x=>bR.r1 name2 r.1 r.2) 0 xs6 ()).bind fun x=>match x with
 | .inl x =>
 bR.j1
 | .inr r=>some r
def cF.b1 (Gr:Gr2) (a2:LF) (b4:LF) (v5:Int) (out6:Int) (v7:LF):Option ((Int × Int × LF) ⊕ (aK × Bool)) :=
 bif (ltZ v5 (a2.length:Int)) then
 ((idx a2 v5).bind fun v8 =>
 (bR b4 v8.1).bind fun l9 =>
 bif l9.2 then
  ((Gr v8.2.1 (v8.2.2.map (Uun 0)) l9.1.1 (l9.1.2.map (Uun 0))).bind fun u10 =>
  bif u10.2 then
  ((app? v7 ([(v8.1,u10.1.1,((u10.1.2.map (Uun 0)).map (Umk 0)))]:LF)).bind fun l11 =>
  (z64 (v5 + 1)).bind fun v12 =>
  some (.inl (v12,out6,l11)))
  else
  ((z64 (v5 + 1)).bind fun v13 =>
  some (.inl (v13,out6,v7))))
 else
  ((z64 (v5 + 1)).bind fun v14 =>
  some (.inl (v14,out6,v7))))
 else
 some (.inr ((out6,(v7.map (Umk 0))),true))
def cF.body (Gr:Gr2) (a1:Int) (a2:LF) (b3:Int) (b4:LF):Option (aK × Bool) :=
 bif (!eqZ a1 b3) then
 some ((0,[]),false)
 else
 (bO (fun x=>cF.b1 Gr a2 b4 x.1 x.2.1 x.2.2) (0,a1,[]))
def cF.rec:Nat → Int → LF → Int → LF → Option (aK × Bool)
 | 0=>fun _ _ _ _=>none
 | n + 1=>cF.body (cF.rec n)
def cF (a1:Int) (a2:LF) (b3:Int) (b4:LF):Option (aK × Bool):=cF.rec Fuel.n a1 a2 b3 b4
def eU.j1 (a1:Int) (a2:LF) (b3:Int) (b4:LF) (v7:Bool):Option (aK × Bool) :=
 bif v7 then
 some ((0,[]),false)
 else
 ((cF a1 a2 b3 b4).bind fun u8 =>
 some ((u8.1.1,((u8.1.2.map (Uun 0)).map (Umk 0))),u8.2))
def eU (a1:Int) (a2:LF) (b3:Int) (b4:LF):Option (aK × Bool) :=
 ((bI a1 a2).bind fun r5 =>
 bif (!r5) then
 some true
 else
 ((bI b3 b4).bind fun r6 =>
 some (!r6))).bind fun x =>
 eU.j1 a1 a2 b3 b4 x
def aX.b1 (Gr:Int → LF → Option aK) (t2:LF) (v3:Int) (out4:Int) (v5:LF):Option ((Int × Int × LF) ⊕ (aK)) :=
 bif (ltZ v3 (t2.length:Int)) then
 ((idx t2 v3).bind fun v6 =>
 (Gr v6.2.1 (v6.2.2.map (Uun 0))).bind fun v7 =>
 (app? v5 ([(v6.1,v7.1,((v7.2.map (Uun 0)).map (Umk 0)))]:LF)).bind fun l8 =>
 (z64 (v3 + 1)).bind fun v9 =>
 some (.inl (v9,out4,l8)))
 else
 some (.inr (out4,(v5.map (Umk 0))))
def aX.body (Gr:Int → LF → Option aK) (t1:Int) (t2:LF):Option aK :=
 bO (fun x=>aX.b1 Gr t2 x.1 x.2.1 x.2.2) (0,t1,[])
def aX.rec:Nat → Int → LF → Option aK
 | 0=>fun _ _=>none
 | n + 1=>aX.body (aX.rec n)
def aX (t1:Int) (t2:LF):Option aK:=aX.rec Fuel.n t1 t2
def eQ.b1 (t2:LF) (v3:Int) (out4:Int) (v5:LF):Option ((Int × Int × LF) ⊕ (Int × LF)) :=
 bif (ltZ v3 (t2.length:Int)) then
 ((idx t2 v3).bind fun v6 =>
 (aX v6.2.1 (v6.2.2.map (Uun 0))).bind fun v7 =>
 (app? v5 ([(v6.1,v7.1,((v7.2.map (Uun 0)).map (Umk 0)))]:LF)).bind fun l8 =>
 (z64 (v3 + 1)).bind fun v9 =>
 some (.inl (v9,out4,l8)))
 else
 some (.inr (out4,v5))
def eQ (t1:Int) (t2:LF):Option (Int × LF) :=
 bO (fun x=>eQ.b1 t2 x.1 x.2.1 x.2.2) (0,t1,[])
def fD (x1:Bs) (x2:Int) (x3:LF) (s4:Bs):Option Int :=
 bif (Op.bytesLess x1 s4) then
 some (-1)
 else
 (bif (!(Op.bytesLess x1 s4 || decide (x1 = s4))) then
  some 1
 else
  some 0)
def aq.b1 (x1:LF) (target2:Bs) (i3:Int) (j4:Int):Option ((Int × Int) ⊕ (Int)) :=
 bif (ltZ i3 j4) then
 ((z64 (i3 + j4)).bind fun v5 =>
 (ES .u64 (IntKind.u64.wrap v5) 1).bind fun v6 =>
 (idx x1 (IntKind.i64.wrap v6)).bind fun v7 =>
 (fD v7.1 v7.2.1 (v7.2.2.map (Uun 0)) target2).bind fun v'8 =>
 bif (ltZ v'8 0) then
  ((z64 ((IntKind.i64.wrap v6) + 1)).bind fun v9 =>
  some (.inl (v9,j4)))
 else
  some (.inl (i3,(IntKind.i64.wrap v6))))
 else
 some (.inr i3)
def aq.j1 (x1:LF) (target2:Bs) (i10:Int):Option (Int × Bool) :=
 bif (ltZ i10 (x1.length:Int)) then
 ((idx x1 i10).bind fun v11 =>
 (fD v11.1 v11.2.1 (v11.2.2.map (Uun 0)) target2).bind fun v'12 =>
 some (i10,(eqZ v'12 0)))
 else
 some (i10,false)
def aq (x1:LF) (target2:Bs):Option (Int × Bool) :=
 (bO (fun x=>aq.b1 x1 target2 x.1 x.2) (0,(x1.length:Int))).bind fun x =>
 aq.j1 x1 target2 x
def eD (i:Int) (v l:List (b9)):Option (List (b9)):=E5 i v l
def ct.b1 (Gr:Gr2) (b4:LF) (v6:Int) (out7:Int) (v8:LF):Option ((Int × Int × LF) ⊕ (aK × Bool)) :=
 bif (ltZ v6 (b4.length:Int)) then
 ((idx b4 v6).bind fun v9 =>
 (aq v8 v9.1).bind fun s10 =>
 bif (!s10.2) then
  ((aX v9.2.1 (v9.2.2.map (Uun 0))).bind fun v11 =>
  (eD s10.1 ([(v9.1,v11.1,((v11.2.map (Uun 0)).map (Umk 0)))]:LF) v8).bind fun f12 =>
  (z64 (v6 + 1)).bind fun v13 =>
  some (.inl (v13,out7,f12)))
 else
  ((idx v8 s10.1).bind fun _14 =>
  (idx v8 s10.1).bind fun v15 =>
  (Gr v15.2.1 (v15.2.2.map (Uun 0)) v9.2.1 (v9.2.2.map (Uun 0))).bind fun l16 =>
  bif (!l16.2) then
  some (.inr ((0,[]),false))
  else
  ((idx v8 s10.1).bind fun _17 =>
  (idx v8 s10.1).bind fun v18 =>
  (z64 (v6 + 1)).bind fun v19 =>
  some (.inl (v19,out7,(v8.set s10.1.toNat (v18.1,l16.1.1,((l16.1.2.map (Uun 0)).map (Umk 0)))))))))
 else
 some (.inr ((out7,(v8.map (Umk 0))),true))
def ct.body (Gr:Gr2) (a1:Int) (a2:LF) (b3:Int) (b4:LF):Option (aK × Bool) :=
 bif (!eqZ a1 b3) then
 some ((0,[]),false)
 else
 ((eQ a1 a2).bind fun f5 =>
 bO (fun x=>ct.b1 Gr b4 x.1 x.2.1 x.2.2) (0,f5.1,f5.2))
def ct.rec:Nat → Int → LF → Int → LF → Option (aK × Bool)
 | 0=>fun _ _ _ _=>none
 | n + 1=>ct.body (ct.rec n)
def ct (a1:Int) (a2:LF) (b3:Int) (b4:LF):Option (aK × Bool):=ct.rec Fuel.n a1 a2 b3 b4
def eb.j1 (l8:aK × Bool) (v10:Bool):Option (aK × Bool) :=
 bif v10 then
 some ((0,[]),false)
 else
 some ((l8.1.1,((l8.1.2.map (Uun 0)).map (Umk 0))),true)
def eb.j2 (a1:Int) (a2:LF) (b3:Int) (b4:LF) (v7:Bool):Option (aK × Bool) :=
 bif v7 then
 some ((0,[]),false)
 else
 ((ct a1 a2 b3 b4).bind fun l8 =>
 (bif (!l8.2) then
  some true
 else
  ((bI l8.1.1 (l8.1.2.map (Uun 0))).bind fun r9 =>
  some (!r9))).bind fun x =>
 eb.j1 l8 x)
def eb (a1:Int) (a2:LF) (b3:Int) (b4:LF):Option (aK × Bool) :=
 ((bI a1 a2).bind fun r5 =>
 bif (!r5) then
 some true
 else
 ((bI b3 b4).bind fun r6 =>
 some (!r6))).bind fun x =>
 eb.j2 a1 a2 b3 b4 x
def eJ (n1:Int):Option dS :=
 some (0,n1,([]:Bs),([]:Bs),[],[])
def gg (f1:Bs) (f2:Int) (f3:LF):Option Bool :=
 (bI f2 f3).bind fun r4 =>
 some (!r4)
def bu.b1 (s1:LF) (v2:Int):Option ((Int) ⊕ (Int)) :=
 bif (ltZ v2 (s1.length:Int)) then
 ((idx s1 v2).bind fun v3 =>
 (gg v3.1 v3.2.1 (v3.2.2.map (Uun 0))).bind fun v'4 =>
 bif v'4 then
  some (.inr v2)
 else
  ((z64 (v2 + 1)).bind fun v5 =>
  some (.inl v5)))
 else
 some (.inr (-1))
def bu (s1:LF):Option Int :=
 bO (fun x=>bu.b1 s1 x) 0
def aO (s1:LF):Option Bool :=
 (bu s1).bind fun f2 =>
 some (leZ 0 f2)
def cM.j1 (e1:Int) (e2:Int) (e3:Bs) (e4:Bs) (e5:LB) (e6:LE) (v9:Bool):Option (dS × Int) :=
 bif v9 then
 some ((e1,0,e3,([]:Bs),[],(e6.map (Umk 1))),1)
 else
 (bif (eqZ e1 16) then
  some ((e1,e2,([]:Bs),([]:Bs),[],(e6.map (Umk 1))),1)
 else
  (bif (eqZ e1 10) then
  some ((e1,0,([]:Bs),([]:Bs),[],(e6.map (Umk 1))),1)
  else
  (bif (eqZ e1 12) then
   some ((e1,0,e3,([]:Bs),[],(e6.map (Umk 1))),2)
  else
   (bif (eqZ e1 11) then
   some ((e1,0,([]:Bs),([]:Bs),[],(e6.map (Umk 1))),3)
   else
   (bif (eqZ e1 13) then
    some ((e1,0,([]:Bs),([]:Bs),e5,(e6.map (Umk 1))),(e5.length:Int))
   else
    (bif (eqZ e1 15) then
    some ((e1,0,e3,e4,[],(e6.map (Umk 1))),(-1))
    else
    some ((e1,0,([]:Bs),([]:Bs),[],(e6.map (Umk 1))),2)))))))
def cM.j2 (e1:Int) (e2:Int) (e3:Bs) (e4:Bs) (e5:LB) (e6:LE) (v8:Bool):Option (dS × Int) :=
 bif v8 then
 some ((e1,0,e3,([]:Bs),[],(e6.map (Umk 1))),0)
 else
 ((bif (eqZ e1 18) then
  some (eqZ e1 18)
 else
  some (eqZ e1 14)).bind fun x =>
 cM.j1 e1 e2 e3 e4 e5 e6 x)
def cM.j3 (e1:Int) (e2:Int) (e3:Bs) (e4:Bs) (e5:LB) (e6:LE) (v7:Bool):Option (dS × Int) :=
 bif v7 then
 some ((e1,e2,([]:Bs),([]:Bs),[],(e6.map (Umk 1))),0)
 else
 ((bif (eqZ e1 2) then
  some (eqZ e1 2)
 else
  some (eqZ e1 17)).bind fun x =>
 cM.j2 e1 e2 e3 e4 e5 e6 x)
def cM (e1:Int) (e2:Int) (e3:Bs) (e4:Bs) (e5:LB) (e6:LE):Option (dS × Int) :=
 (bif (eqZ e1 0) then
 some (eqZ e1 0)
 else
 some (eqZ e1 1)).bind fun x =>
 cM.j3 e1 e2 e3 e4 e5 e6 x
def cA.j1 (v11:Int) (v16:Bool):Option ((Int) ⊕ (Bool)) :=
 bif v16 then
 some (.inr false)
 else
 ((z64 (v11 + 1)).bind fun v17 =>
 some (.inl v17))
def cA.b1 (e5:LB) (v11:Int):Option ((Int) ⊕ (Bool)) :=
 bif (ltZ v11 (e5.length:Int)) then
 ((idx e5 v11).bind fun v12 =>
 ((cZ v12).bind fun n13 =>
 bif (!n13) then
  some true
 else
  (bif (ltZ 0 v11) then
  ((z64 (v11 - 1)).bind fun v14 =>
  (idx e5 v14).bind fun v15 =>
  some (Op.bytesLess v12 v15 || decide (v12 = v15)))
  else
  some false)).bind fun x =>
 cA.j1 v11 x)
 else
 some (.inr (leZ (e5.length:Int) 8))
def cA.j2 (e1:Int) (e3:Bs) (e4:Bs) (e5:LB) (e6:LE) (v7:Bool):Option Bool :=
 bif v7 then
 ((cZ e3).bind fun n8 =>
 some n8)
 else
 (bif (eqZ e1 15) then
  ((cZ e3).bind fun n9 =>
  bif n9 then
  (bif (decide (e4 = ([]:Bs))) then
   some (leZ (e6.length:Int) 6)
  else
   ((cZ e4).bind fun n10 =>
   bif n10 then
   some (leZ (e6.length:Int) 6)
   else
   some false))
  else
  some false)
 else
  (bif (eqZ e1 13) then
  (bO (fun x=>cA.b1 e5 x) 0)
  else
  some true))
def cA (e1:Int) (e2:Int) (e3:Bs) (e4:Bs) (e5:LB) (e6:LE):Option Bool :=
 bif (eqZ e1 0) then
 (bif (leZ 0 e2) then
  some (leZ e2 1099511627776)
 else
  some false)
 else
 (bif (eqZ e1 1) then
  (bif (eqZ e2 0) then
  some true
  else
  some (eqZ e2 1))
 else
  (bif (eqZ e1 16) then
  (bif (eqZ e2 1) then
   some true
  else
   (bif (eqZ e2 2) then
   some true
   else
   (bif (eqZ e2 4) then
    some true
   else
    some (eqZ e2 8))))
  else
  ((bif (eqZ e1 2) then
   some (eqZ e1 2)
  else
   (bif (eqZ e1 17) then
   some (eqZ e1 17)
   else
   (bif (eqZ e1 18) then
    some (eqZ e1 18)
   else
    (bif (eqZ e1 14) then
    some (eqZ e1 14)
    else
    some (eqZ e1 12))))).bind fun x =>
  cA.j2 e1 e3 e4 e5 e6 x)))
def av.b1 (Gr:Gr3) (e6:LE) (depth7:Int) (v13:Int):Option ((Int) ⊕ (Bool)) :=
 bif (ltZ v13 (e6.length:Int)) then
 ((idx e6 v13).bind fun v14 =>
 (z64 (depth7 - 1)).bind fun v15 =>
 (Gr v14.1 v14.2.1 v14.2.2.1 v14.2.2.2.1 v14.2.2.2.2.1 (v14.2.2.2.2.2.map (Uun 1)) v15).bind fun r16 =>
 bif (!r16) then
  some (.inr false)
 else
  ((z64 (v13 + 1)).bind fun v17 =>
  some (.inl v17)))
 else
 some (.inr true)
def av.j1 (Gr:Gr3) (e6:LE) (depth7:Int) (v12:Bool):Option Bool :=
 bif v12 then
 some false
 else
 (bO (fun x=>av.b1 Gr e6 depth7 x) 0)
def av.j2 (Gr:Gr3) (e1:Int) (e2:Int) (e3:Bs) (e4:Bs) (e5:LB) (e6:LE) (depth7:Int) (v8:Bool):Option Bool :=
 bif v8 then
 some false
 else
 ((cM e1 e2 e3 e4 e5 e6).bind fun c9 =>
 (bif (leZ 0 c9.2) then
  (bif (!eqZ c9.2 (e6.length:Int)) then
  some true
  else
  (bif (!eqZ c9.1.2.1 e2) then
   some true
  else
   (bif (!decide (c9.1.2.2.1 = e3)) then
   some true
   else
   (bif (!decide (c9.1.2.2.2.1 = e4)) then
    some true
   else
    (bif (!eqZ (c9.1.2.2.2.2.1.length:Int) (e5.length:Int)) then
    some true
    else
    ((cA e1 e2 e3 e4 e5 e6).bind fun l10 =>
    some (!l10)))))))
 else
  (bif (!eqZ c9.1.2.1 e2) then
  some true
  else
  (bif (!decide (c9.1.2.2.1 = e3)) then
   some true
  else
   (bif (!decide (c9.1.2.2.2.1 = e4)) then
   some true
   else
   (bif (!eqZ (c9.1.2.2.2.2.1.length:Int) (e5.length:Int)) then
    some true
   else
    ((cA e1 e2 e3 e4 e5 e6).bind fun l11 =>
    some (!l11))))))).bind fun x =>
 av.j1 Gr e6 depth7 x)
def av.body (Gr:Gr3) (e1:Int) (e2:Int) (e3:Bs) (e4:Bs) (e5:LB) (e6:LE) (depth7:Int):Option Bool :=
 (bif (eqZ depth7 0) then
 some true
 else
 (bif (ltZ e1 0) then
  some true
 else
  some (leZ 19 e1))).bind fun x =>
 av.j2 Gr e1 e2 e3 e4 e5 e6 depth7 x
def av.rec:Nat → Int → Int → Bs → Bs → LB → LE → Int → Option Bool
 | 0=>fun _ _ _ _ _ _ _=>none
 | n + 1=>av.body (av.rec n)
def av (e1:Int) (e2:Int) (e3:Bs) (e4:Bs) (e5:LB) (e6:LE) (depth7:Int):Option Bool:=av.rec Fuel.n e1 e2 e3 e4 e5 e6 depth7
def cn (e1:Int) (e2:Int) (e3:Bs) (e4:Bs) (e5:LB) (e6:LE):Option Bool :=
 (av e1 e2 e3 e4 e5 e6 12).bind fun r7 =>
 some r7
def bA.j1 (v3:Int) (known4:List (Bs × Bool)) (v5:b9) (v8:Bool):Option ((Int × List (Bs × Bool)) ⊕ (Bool)) :=
 bif v8 then
 some (.inr false)
 else
 ((z64 (v3 + 1)).bind fun v9 =>
 some (.inl (v9,(fE known4 v5.1 true))))
def bA.b1 (l1:LF) (most2:Int) (v3:Int) (known4:List (Bs × Bool)):Option ((Int × List (Bs × Bool)) ⊕ (Bool)) :=
 bif (ltZ v3 (l1.length:Int)) then
 ((idx l1 v3).bind fun v5 =>
 (bif ((cD known4 v5.1).getD false) then
  some true
 else
  ((cZ v5.1).bind fun n6 =>
  bif (!n6) then
  some true
  else
  ((cL v5.2.1 (v5.2.2.map (Uun 0))).bind fun r7 =>
  some (!r7)))).bind fun x =>
 bA.j1 v3 known4 v5 x)
 else
 some (.inr (leZ (l1.length:Int) most2))
def bA (l1:LF) (most2:Int):Option Bool :=
 bO (fun x=>bA.b1 l1 most2 x.1 x.2) (0,([]:List (Bs × Bool)))
def cC.b1 (l1:LE) (n2:Int) (v3:Int):Option ((Int) ⊕ (Bool)) :=
 bif (ltZ v3 (l1.length:Int)) then
 ((idx l1 v3).bind fun v4 =>
 (cn v4.1 v4.2.1 v4.2.2.1 v4.2.2.2.1 v4.2.2.2.2.1 (v4.2.2.2.2.2.map (Uun 1))).bind fun r5 =>
 bif (!r5) then
  some (.inr false)
 else
  ((z64 (v3 + 1)).bind fun v6 =>
  some (.inl v6)))
 else
 some (.inr (eqZ (l1.length:Int) n2))
def cC (l1:LE) (n2:Int):Option Bool :=
 bO (fun x=>cC.b1 l1 n2 x) 0
def au.j1 (v10:Int) (known11:List (Bs × Bool)) (v12:Bs) (v14:Bool):Option ((Int × List (Bs × Bool)) ⊕ ((Unit) ⊕ (Bool))) :=
 bif v14 then
 some (.inr (.inr false))
 else
 ((z64 (v10 + 1)).bind fun v15 =>
 some (.inl (v15,(fE known11 v12 true))))
def au.b1 (m2:LB) (v10:Int) (known11:List (Bs × Bool)):Option ((Int × List (Bs × Bool)) ⊕ ((Unit) ⊕ (Bool))) :=
 bif (ltZ v10 (m2.length:Int)) then
 ((idx m2 v10).bind fun v12 =>
 (bif ((cD known11 v12).getD false) then
  some true
 else
  ((cZ v12).bind fun n13 =>
  some (!n13))).bind fun x =>
 au.j1 v10 known11 v12 x)
 else
 some (.inr (.inl ()))
def au.j2 (v16:Int) (funcs17:List (Bs × Bool)) (v18:fW) (v23:Bool):Option ((Int × List (Bs × Bool)) ⊕ ((Unit) ⊕ (Bool))) :=
 bif v23 then
 some (.inr (.inr false))
 else
 ((z64 (v16 + 1)).bind fun v24 =>
 some (.inl (v24,(fE funcs17 v18.1 true))))
def au.b2 (m5:LU) (v16:Int) (funcs17:List (Bs × Bool)):Option ((Int × List (Bs × Bool)) ⊕ ((Unit) ⊕ (Bool))) :=
 bif (ltZ v16 (m5.length:Int)) then
 ((idx m5 v16).bind fun v18 =>
 (bif ((cD funcs17 v18.1).getD false) then
  some true
 else
  ((cZ v18.1).bind fun n19 =>
  bif (!n19) then
  some true
  else
  ((bA (v18.2.2.1.map (Uun 0)) 6).bind fun r20 =>
  bif (!r20) then
   some true
  else
   ((cL v18.2.2.2.1.1 (v18.2.2.2.1.2.map (Uun 0))).bind fun r21 =>
   bif (!r21) then
   some true
   else
   ((cn v18.2.2.2.2.2.1 v18.2.2.2.2.2.2.1 v18.2.2.2.2.2.2.2.1 v18.2.2.2.2.2.2.2.2.1 v18.2.2.2.2.2.2.2.2.2.1 (v18.2.2.2.2.2.2.2.2.2.2.map (Uun 1))).bind fun r22 =>
   bif (!r22) then
    some true
   else
    some (!eqZ (anI .i64 v18.2.2.2.2.1 15) 0)))))).bind fun x =>
 au.j2 v16 funcs17 v18 x)
 else
 some (.inr (.inl ()))
def au.j3 (m7:LF) (m8:LE) (m9:LE) (vars29:Int):Option Bool :=
 (bA m7 8).bind fun r30 =>
 bif r30 then
 ((cC m8 vars29).bind fun r31 =>
 bif r31 then
  ((cC m9 (m7.length:Int)).bind fun r32 =>
  some r32)
 else
  some false)
 else
 some false
def au.j4 (m3:LF) (m6:Bool) (m7:LF) (m8:LE) (m9:LE) (v28:Bool):Option Bool :=
 bif v28 then
 some false
 else
 (((bif (!m6) then
  (bif (ltZ 0 (m7.length:Int)) then
  some (.inr false)
  else
  some (.inl 0))
 else
  some (.inl (m3.length:Int))):Option ((Int) ⊕ (Bool))).bind fun x=>match x with
 | .inl x =>
  au.j3 m7 m8 m9 x
 | .inr r=>some r)
def au.j5 (m1:Bs) (m2:LB) (m3:LF) (m4:LE) (m5:LU) (m6:Bool) (m7:LF) (m8:LE) (m9:LE):Option Bool :=
 ((cZ m1).bind fun n25 =>
 bif (!n25) then
 some true
 else
 (bif (ltZ 12 (m2.length:Int)) then
  some true
 else
  (bif (ltZ 30 (m5.length:Int)) then
  some true
  else
  ((bA m3 8).bind fun r26 =>
  bif (!r26) then
   some true
  else
   ((cC m4 (m3.length:Int)).bind fun r27 =>
   some (!r27)))))).bind fun x =>
 au.j4 m3 m6 m7 m8 m9 x
def au.j6 (m1:Bs) (m2:LB) (m3:LF) (m4:LE) (m5:LU) (m6:Bool) (m7:LF) (m8:LE) (m9:LE):Option Bool :=
 (bO (fun x=>au.b2 m5 x.1 x.2) (0,([]:List (Bs × Bool)))).bind fun x=>match x with
 | .inl x =>
 au.j5 m1 m2 m3 m4 m5 m6 m7 m8 m9
 | .inr r=>some r
def au (m1:Bs) (m2:LB) (m3:LF) (m4:LE) (m5:LU) (m6:Bool) (m7:LF) (m8:LE) (m9:LE):Option Bool :=
 (bO (fun x=>au.b1 m2 x.1 x.2) (0,([]:List (Bs × Bool)))).bind fun x=>match x with
 | .inl x =>
 au.j6 m1 m2 m3 m4 m5 m6 m7 m8 m9
 | .inr r=>some r
def fq (t1:Int) (t2:LF):Option Bool :=
 (bI t1 t2).bind fun r3 =>
 some (!r3)
def bF.b1 (s1:LT) (v2:Int):Option ((Int) ⊕ (Int)) :=
 bif (ltZ v2 (s1.length:Int)) then
 ((idx s1 v2).bind fun v3 =>
 (fq v3.1 (v3.2.map (Uun 0))).bind fun v'4 =>
 bif v'4 then
  some (.inr v2)
 else
  ((z64 (v2 + 1)).bind fun v5 =>
  some (.inl v5)))
 else
 some (.inr (-1))
def bF (s1:LT):Option Int :=
 bO (fun x=>bF.b1 s1 x) 0
def bh (s1:LT):Option Bool :=
 (bF s1).bind fun t2 =>
 some (leZ 0 t2)
def bj.j1 (v24:Int) (v28:Bool):Option ((Int) ⊕ ((Unit) ⊕ ((Int × Bs × (LB) × (LF) × (LE) × (LU) × Bool × (LF) × (LE) × (LE) × Int × List (Bs × bH)) ⊕ (Bs × (LB) × (LF) × (LE) × (LU) × Bool × (LF) × (LE) × (LE) × Int × List (Bs × bH))))) :=
 bif v28 then
 (Option.map Sum.inr (Option.map Sum.inr (Option.map Sum.inr (none))))
 else
 ((z64 (v24 + 1)).bind fun v29 =>
 some (.inl v29))
def bj.b1 (v23:bH) (v24:Int):Option ((Int) ⊕ ((Unit) ⊕ ((Int × Bs × (LB) × (LF) × (LE) × (LU) × Bool × (LF) × (LE) × (LE) × Int × List (Bs × bH)) ⊕ (Bs × (LB) × (LF) × (LE) × (LU) × Bool × (LF) × (LE) × (LE) × Int × List (Bs × bH))))) :=
 bif (ltZ v24 (v23.2.length:Int)) then
 ((idx v23.2 v24).bind fun v25 =>
 ((bI v25.2.2.1.1 (v25.2.2.1.2.map (Uun 0))).bind fun r26 =>
 bif (!r26) then
  some true
 else
  ((bh v25.2.1).bind fun t27 =>
  some t27)).bind fun x =>
 bj.j1 v24 x)
 else
 some (.inr (.inl ()))
def bj.j2 (v11:Int) (j12:Bs) (j13:LB) (j14:LF) (j15:LE) (j16:LU) (j17:Bool) (j18:LF) (j19:LE) (j20:LE) (j21:Int) (v22:List (Bs × bH)) (v23:bH):Option ((Int × Bs × (LB) × (LF) × (LE) × (LU) × Bool × (LF) × (LE) × (LE) × Int × List (Bs × bH)) ⊕ (Bs × (LB) × (LF) × (LE) × (LU) × Bool × (LF) × (LE) × (LE) × Int × List (Bs × bH))) :=
 bif (!(cD v22 v23.1).isSome) then
 ((z64 (v11 + 1)).bind fun v30 =>
 some (.inl (v30,j12,j13,j14,j15,j16,j17,j18,j19,j20,j21,(fE v22 v23.1 v23))))
 else
 ((z64 (v11 + 1)).bind fun v31 =>
 some (.inl (v31,j12,j13,j14,j15,j16,j17,j18,j19,j20,j21,v22)))
def bj.b2 (faces10:LA) (v11:Int) (j12:Bs) (j13:LB) (j14:LF) (j15:LE) (j16:LU) (j17:Bool) (j18:LF) (j19:LE) (j20:LE) (j21:Int) (v22:List (Bs × bH)):Option ((Int × Bs × (LB) × (LF) × (LE) × (LU) × Bool × (LF) × (LE) × (LE) × Int × List (Bs × bH)) ⊕ (Bs × (LB) × (LF) × (LE) × (LU) × Bool × (LF) × (LE) × (LE) × Int × List (Bs × bH))) :=
 bif (ltZ v11 (faces10.length:Int)) then
 ((idx faces10 v11).bind fun v23 =>
 (bO (fun x=>bj.b1 v23 x) 0).bind fun x=>match x with
 | .inl x =>
  bj.j2 v11 j12 j13 j14 j15 j16 j17 j18 j19 j20 j21 v22 v23
 | .inr r=>some r)
 else
 some (.inr (j12,j13,j14,j15,j16,j17,j18,j19,j20,j21,v22))
def bj (m1:Bs) (m2:LB) (m3:LF) (m4:LE) (m5:LU) (m6:Bool) (m7:LF) (m8:LE) (m9:LE) (faces10:LA):Option (Bs × (LB) × (LF) × (LE) × (LU) × Bool × (LF) × (LE) × (LE) × Int × List (Bs × bH)) :=
 bO (fun x=>bj.b2 faces10 x.1 x.2.1 x.2.2.1 x.2.2.2.1 x.2.2.2.2.1 x.2.2.2.2.2.1 x.2.2.2.2.2.2.1 x.2.2.2.2.2.2.2.1 x.2.2.2.2.2.2.2.2.1 x.2.2.2.2.2.2.2.2.2.1 x.2.2.2.2.2.2.2.2.2.2.1 x.2.2.2.2.2.2.2.2.2.2.2) (0,m1,m2,m3,m4,m5,m6,m7,m8,m9,0,([]:List (Bs × bH)))
def bK (s1:LF):Option (LF) :=
 qF s1 (
 some []) (
 (app? ([]:LF) s1).bind fun l2 =>
 some l2)
def gF (Gr:Gr1) (f1:Bs) (f2:Int) (f3:LF) (p4:Int) (p5:LF):Option Bool :=
 (bR p5 f1).bind fun l6 =>
 bif (!l6.2) then
 some true
 else
 ((Gr l6.1.1 (l6.1.2.map (Uun 0)) f2 f3).bind fun b7 =>
 some (!b7))
def aP.b1 (Gr:Gr1) (s1:LF) (p2:Int) (p3:LF) (v4:Int):Option ((Int) ⊕ (Int)) :=
 bif (ltZ v4 (s1.length:Int)) then
 ((idx s1 v4).bind fun v5 =>
 (gF Gr v5.1 v5.2.1 (v5.2.2.map (Uun 0)) p2 p3).bind fun v'6 =>
 bif v'6 then
  some (.inr v4)
 else
  ((z64 (v4 + 1)).bind fun v7 =>
  some (.inl v7)))
 else
 some (.inr (-1))
def aP (Gr:Gr1) (s1:LF) (p2:Int) (p3:LF):Option Int :=
 bO (fun x=>aP.b1 Gr s1 p2 p3 x) 0
def cd (Gr:Gr1) (s1:LF) (p2:Int) (p3:LF):Option Bool :=
 (aP Gr s1 p2 p3).bind fun v4 =>
 some (leZ 0 v4)
def bf.body (Gr:Gr1) (a1:Int) (a2:LF) (b3:Int) (b4:LF):Option Bool :=
 bif (eqZ a1 b3) then
 ((cd Gr b4 a1 a2).bind fun v5 =>
 some (!v5))
 else
 some false
def bf.rec:Nat → Int → LF → Int → LF → Option Bool
 | 0=>fun _ _ _ _=>none
 | n + 1=>bf.body (bf.rec n)
def bf (a1:Int) (a2:LF) (b3:Int) (b4:LF):Option Bool:=bf.rec Fuel.n a1 a2 b3 b4
def ec (Gr:Gr5) (locals1:LF) (e2:Int) (e3:Int) (e4:Bs) (e5:Bs) (e6:LB) (e7:LE) (j8:Bs) (j9:LB) (j10:LF) (j11:LE) (j12:LU) (j13:Bool) (j14:LF) (j15:LE) (j16:LE) (j17:Int) (p18:List (Bs × bH)):Option (aK × Int × Bs × (LB) × (LF) × (LE) × (LU) × Bool × (LF) × (LE) × (LE) × Int × List (Bs × bH)) :=
 (bR j10 e4).bind fun l19 =>
 bif (!l19.2) then
 some ((0,[]),12,j8,j9,j10,j11,j12,j13,j14,j15,j16,j17,p18)
 else
 (bif (eqZ e2 18) then
  ((idx e7 0).bind fun v20 =>
  (Gr locals1 v20.1 v20.2.1 v20.2.2.1 v20.2.2.2.1 v20.2.2.2.2.1 (v20.2.2.2.2.2.map (Uun 1)) j8 j9 j10 j11 j12 j13 j14 j15 j16 j17 p18).bind fun f21 =>
  bif (!eqZ f21.2.1 0) then
  some ((0,[]),f21.2.1,f21.2.2.1,f21.2.2.2.1,f21.2.2.2.2.1,f21.2.2.2.2.2.1,f21.2.2.2.2.2.2.1,f21.2.2.2.2.2.2.2.1,f21.2.2.2.2.2.2.2.2.1,f21.2.2.2.2.2.2.2.2.2.1,f21.2.2.2.2.2.2.2.2.2.2.1,f21.2.2.2.2.2.2.2.2.2.2.2.1,f21.2.2.2.2.2.2.2.2.2.2.2.2)
  else
  ((bf f21.1.1 (f21.1.2.map (Uun 0)) l19.1.1 (l19.1.2.map (Uun 0))).bind fun b22 =>
  bif (!b22) then
   some ((0,[]),13,f21.2.2.1,f21.2.2.2.1,f21.2.2.2.2.1,f21.2.2.2.2.2.1,f21.2.2.2.2.2.2.1,f21.2.2.2.2.2.2.2.1,f21.2.2.2.2.2.2.2.2.1,f21.2.2.2.2.2.2.2.2.2.1,f21.2.2.2.2.2.2.2.2.2.2.1,f21.2.2.2.2.2.2.2.2.2.2.2.1,f21.2.2.2.2.2.2.2.2.2.2.2.2)
  else
   some ((l19.1.1,((l19.1.2.map (Uun 0)).map (Umk 0))),0,f21.2.2.1,f21.2.2.2.1,f21.2.2.2.2.1,f21.2.2.2.2.2.1,f21.2.2.2.2.2.2.1,f21.2.2.2.2.2.2.2.1,f21.2.2.2.2.2.2.2.2.1,f21.2.2.2.2.2.2.2.2.2.1,f21.2.2.2.2.2.2.2.2.2.2.1,f21.2.2.2.2.2.2.2.2.2.2.2.1,f21.2.2.2.2.2.2.2.2.2.2.2.2)))
 else
  some ((l19.1.1,((l19.1.2.map (Uun 0)).map (Umk 0))),0,j8,j9,j10,j11,j12,j13,j14,j15,j16,j17,p18))
def ed (f1:Bs) (f2:Bool) (f3:LF) (f4:Int) (f5:LF) (f6:Int) (f7:Int) (f8:Int) (f9:Bs) (f10:Bs) (f11:LB) (f12:LE) (p13:Int) (p14:Int) (p15:Bs) (p16:Bs) (p17:LB) (p18:LE):Option Bool :=
 some (decide (f1 = p15))
def aH.b1 (s1:LU) (p2:Int) (p3:Int) (p4:Bs) (p5:Bs) (p6:LB) (p7:LE) (v8:Int):Option ((Int) ⊕ (Int)) :=
 bif (ltZ v8 (s1.length:Int)) then
 ((idx s1 v8).bind fun v9 =>
 (ed v9.1 v9.2.1 (v9.2.2.1.map (Uun 0)) v9.2.2.2.1.1 (v9.2.2.2.1.2.map (Uun 0)) v9.2.2.2.2.1 v9.2.2.2.2.2.1 v9.2.2.2.2.2.2.1 v9.2.2.2.2.2.2.2.1 v9.2.2.2.2.2.2.2.2.1 v9.2.2.2.2.2.2.2.2.2.1 (v9.2.2.2.2.2.2.2.2.2.2.map (Uun 1)) p2 p3 p4 p5 p6 p7).bind fun v'10 =>
 bif v'10 then
  some (.inr v8)
 else
  ((z64 (v8 + 1)).bind fun v11 =>
  some (.inl v11)))
 else
 some (.inr (-1))
def aH (s1:LU) (p2:Int) (p3:Int) (p4:Bs) (p5:Bs) (p6:LB) (p7:LE):Option Int :=
 bO (fun x=>aH.b1 s1 p2 p3 p4 p5 p6 p7 x) 0
def ef (s1:Bs) (s2:LT) (s3:Int) (s4:LF) (s5:Int) (p6:Int) (p7:Int) (p8:Bs) (p9:Bs) (p10:LB) (p11:LE):Option Bool :=
 some (decide (s1 = p8))
def aQ.b1 (s1:List gD) (p2:Int) (p3:Int) (p4:Bs) (p5:Bs) (p6:LB) (p7:LE) (v8:Int):Option ((Int) ⊕ (Int)) :=
 bif (ltZ v8 (s1.length:Int)) then
 ((idx s1 v8).bind fun v9 =>
 (ef v9.1 v9.2.1 v9.2.2.1.1 (v9.2.2.1.2.map (Uun 0)) v9.2.2.2 p2 p3 p4 p5 p6 p7).bind fun v'10 =>
 bif v'10 then
  some (.inr v8)
 else
  ((z64 (v8 + 1)).bind fun v11 =>
  some (.inl v11)))
 else
 some (.inr (-1))
def aQ (s1:List gD) (p2:Int) (p3:Int) (p4:Bs) (p5:Bs) (p6:LB) (p7:LE):Option Int :=
 bO (fun x=>aQ.b1 s1 p2 p3 p4 p5 p6 p7 x) 0
def cG.b1 (s1:LB) (p2:Bs) (v3:Int):Option ((Int) ⊕ (Int)) :=
 bif (ltZ v3 (s1.length:Int)) then
 ((idx s1 v3).bind fun v4 =>
 bif (decide (p2 = v4)) then
  some (.inr v3)
 else
  ((z64 (v3 + 1)).bind fun v5 =>
  some (.inl v5)))
 else
 some (.inr (-1))
def cG (s1:LB) (p2:Bs):Option Int :=
 bO (fun x=>cG.b1 s1 p2 x) 0
def bZ (s1:LB) (p2:Bs):Option Bool :=
 (cG s1 p2).bind fun s3 =>
 some (leZ 0 s3)
def cf.b1 (v19:fW) (v20:Int) (s21:Bs) (s22:Int) (s23:LF) (s24:Int) (v25:LT):Option ((Int × Bs × Int × (LF) × Int × LT) ⊕ ((Unit) ⊕ (gD × Bool))) :=
 bif (ltZ v20 ((v19.2.2.1.map (Uun 0)).length:Int)) then
 ((idx (v19.2.2.1.map (Uun 0)) v20).bind fun v26 =>
 (app? v25 ([(v26.2.1,((v26.2.2.map (Uun 0)).map (Umk 0)))]:LT)).bind fun l27 =>
 (z64 (v20 + 1)).bind fun v28 =>
 some (.inl (v28,s21,s22,s23,s24,l27)))
 else
 some (.inr (.inr ((s21,v25,(s22,(s23.map (Umk 0))),s24),true)))
def cf.j1 (e4:Bs) (p17:List (Bs × bH)) (s29:Int) (v31:Bool):Option (gD × Bool) :=
 bif v31 then
 some ((([]:Bs),[],(0,[]),0),false)
 else
 ((idx (((cD p17 e4).getD (([]:Bs),[])).2) s29).bind fun v32 =>
 some ((v32.1,v32.2.1,(v32.2.2.1.1,((v32.2.2.1.2.map (Uun 0)).map (Umk 0))),v32.2.2.2),true))
def cf.j2 (e1:Int) (e2:Int) (e3:Bs) (e4:Bs) (e5:LB) (e6:LE) (j8:LB) (p17:List (Bs × bH)):Option (gD × Bool) :=
 (aQ (((cD p17 e4).getD (([]:Bs),[])).2) e1 e2 e3 e4 e5 e6).bind fun s29 =>
 (bif (!(cD p17 e4).isSome) then
 some true
 else
 (bif (ltZ s29 0) then
  some true
 else
  ((bZ j8 e4).bind fun s30 =>
  some (!s30)))).bind fun x =>
 cf.j1 e4 p17 s29 x
def cf (e1:Int) (e2:Int) (e3:Bs) (e4:Bs) (e5:LB) (e6:LE) (j7:Bs) (j8:LB) (j9:LF) (j10:LE) (j11:LU) (j12:Bool) (j13:LF) (j14:LE) (j15:LE) (j16:Int) (p17:List (Bs × bH)):Option (gD × Bool) :=
 ((bif (decide (e4 = ([]:Bs))) then
 ((aH j11 e1 e2 e3 e4 e5 e6).bind fun f18 =>
 bif (ltZ f18 0) then
  some (.inr ((([]:Bs),[],(0,[]),0),false))
 else
  ((idx j11 f18).bind fun v19 =>
  bO (fun x=>cf.b1 v19 x.1 x.2.1 x.2.2.1 x.2.2.2.1 x.2.2.2.2.1 x.2.2.2.2.2) (0,([]:Bs),v19.2.2.2.1.1,(v19.2.2.2.1.2.map (Uun 0)),v19.2.2.2.2.1,[])))
 else
 some (.inl ())):Option ((Unit) ⊕ (gD × Bool))).bind fun x=>match x with
 | .inl x =>
 cf.j2 e1 e2 e3 e4 e5 e6 j8 p17
 | .inr r=>some r
def db.b1 (Gr:Gr5) (locals1:LF) (l2:LE) (v14:Int) (j15:Bs) (j16:LB) (j17:LF) (j18:LE) (j19:LU) (j20:Bool) (j21:LF) (j22:LE) (j23:LE) (j24:Int) (out25:LT) (v26:List (Bs × bH)):Option ((Int × Bs × (LB) × (LF) × (LE) × (LU) × Bool × (LF) × (LE) × (LE) × Int × (LT) × List (Bs × bH)) ⊕ ((LT) × Int × Bs × (LB) × (LF) × (LE) × (LU) × Bool × (LF) × (LE) × (LE) × Int × List (Bs × bH))) :=
 bif (ltZ v14 (l2.length:Int)) then
 ((idx l2 v14).bind fun v27 =>
 (Gr locals1 v27.1 v27.2.1 v27.2.2.1 v27.2.2.2.1 v27.2.2.2.2.1 (v27.2.2.2.2.2.map (Uun 1)) j15 j16 j17 j18 j19 j20 j21 j22 j23 j24 v26).bind fun f28 =>
 bif (!eqZ f28.2.1 0) then
  some (.inr ([],f28.2.1,f28.2.2.1,f28.2.2.2.1,f28.2.2.2.2.1,f28.2.2.2.2.2.1,f28.2.2.2.2.2.2.1,f28.2.2.2.2.2.2.2.1,f28.2.2.2.2.2.2.2.2.1,f28.2.2.2.2.2.2.2.2.2.1,f28.2.2.2.2.2.2.2.2.2.2.1,f28.2.2.2.2.2.2.2.2.2.2.2.1,f28.2.2.2.2.2.2.2.2.2.2.2.2))
 else
  ((app? out25 ([(f28.1.1,((f28.1.2.map (Uun 0)).map (Umk 0)))]:LT)).bind fun l29 =>
  (z64 (v14 + 1)).bind fun v30 =>
  some (.inl (v30,f28.2.2.1,f28.2.2.2.1,f28.2.2.2.2.1,f28.2.2.2.2.2.1,f28.2.2.2.2.2.2.1,f28.2.2.2.2.2.2.2.1,f28.2.2.2.2.2.2.2.2.1,f28.2.2.2.2.2.2.2.2.2.1,f28.2.2.2.2.2.2.2.2.2.2.1,f28.2.2.2.2.2.2.2.2.2.2.2.1,l29,f28.2.2.2.2.2.2.2.2.2.2.2.2))))
 else
 some (.inr (out25,0,j15,j16,j17,j18,j19,j20,j21,j22,j23,j24,v26))
def db (Gr:Gr5) (locals1:LF) (l2:LE) (j3:Bs) (j4:LB) (j5:LF) (j6:LE) (j7:LU) (j8:Bool) (j9:LF) (j10:LE) (j11:LE) (j12:Int) (p13:List (Bs × bH)):Option ((LT) × Int × Bs × (LB) × (LF) × (LE) × (LU) × Bool × (LF) × (LE) × (LE) × Int × List (Bs × bH)) :=
 bO (fun x=>db.b1 Gr locals1 l2 x.1 x.2.1 x.2.2.1 x.2.2.2.1 x.2.2.2.2.1 x.2.2.2.2.2.1 x.2.2.2.2.2.2.1 x.2.2.2.2.2.2.2.1 x.2.2.2.2.2.2.2.2.1 x.2.2.2.2.2.2.2.2.2.1 x.2.2.2.2.2.2.2.2.2.2.1 x.2.2.2.2.2.2.2.2.2.2.2.1 x.2.2.2.2.2.2.2.2.2.2.2.2) (0,j3,j4,j5,j6,j7,j8,j9,j10,j11,j12,[],p13)
def dz.b1 (c19:gD × Bool) (l20:(LT) × Int × Bs × (LB) × (LF) × (LE) × (LU) × Bool × (LF) × (LE) × (LE) × Int × List (Bs × bH)) (v21:Int):Option ((Int) ⊕ (aK × Int × Bs × (LB) × (LF) × (LE) × (LU) × Bool × (LF) × (LE) × (LE) × Int × List (Bs × bH))) :=
 bif (ltZ v21 (l20.1.length:Int)) then
 ((idx l20.1 v21).bind fun v22 =>
 (idx c19.1.2.1 v21).bind fun v23 =>
 (bf v22.1 (v22.2.map (Uun 0)) v23.1 (v23.2.map (Uun 0))).bind fun b24 =>
 bif (!b24) then
  some (.inr ((0,[]),13,l20.2.2.1,l20.2.2.2.1,l20.2.2.2.2.1,l20.2.2.2.2.2.1,l20.2.2.2.2.2.2.1,l20.2.2.2.2.2.2.2.1,l20.2.2.2.2.2.2.2.2.1,l20.2.2.2.2.2.2.2.2.2.1,l20.2.2.2.2.2.2.2.2.2.2.1,l20.2.2.2.2.2.2.2.2.2.2.2.1,l20.2.2.2.2.2.2.2.2.2.2.2.2))
 else
  ((z64 (v21 + 1)).bind fun v25 =>
  some (.inl v25)))
 else
 some (.inr ((c19.1.2.2.1.1,((c19.1.2.2.1.2.map (Uun 0)).map (Umk 0))),0,l20.2.2.1,l20.2.2.2.1,l20.2.2.2.2.1,l20.2.2.2.2.2.1,l20.2.2.2.2.2.2.1,l20.2.2.2.2.2.2.2.1,l20.2.2.2.2.2.2.2.2.1,l20.2.2.2.2.2.2.2.2.2.1,l20.2.2.2.2.2.2.2.2.2.2.1,(orI .i64 l20.2.2.2.2.2.2.2.2.2.2.2.1 c19.1.2.2.2),l20.2.2.2.2.2.2.2.2.2.2.2.2))
def dz (Gr:Gr5) (locals1:LF) (e2:Int) (e3:Int) (e4:Bs) (e5:Bs) (e6:LB) (e7:LE) (j8:Bs) (j9:LB) (j10:LF) (j11:LE) (j12:LU) (j13:Bool) (j14:LF) (j15:LE) (j16:LE) (j17:Int) (p18:List (Bs × bH)):Option (aK × Int × Bs × (LB) × (LF) × (LE) × (LU) × Bool × (LF) × (LE) × (LE) × Int × List (Bs × bH)) :=
 (cf e2 e3 e4 e5 e6 e7 j8 j9 j10 j11 j12 j13 j14 j15 j16 j17 p18).bind fun c19 =>
 bif (!c19.2) then
 some ((0,[]),12,j8,j9,j10,j11,j12,j13,j14,j15,j16,j17,p18)
 else
 (bif (!eqZ (c19.1.2.1.length:Int) (e7.length:Int)) then
  some ((0,[]),13,j8,j9,j10,j11,j12,j13,j14,j15,j16,j17,p18)
 else
  ((db Gr locals1 e7 j8 j9 j10 j11 j12 j13 j14 j15 j16 j17 p18).bind fun l20 =>
  bif (!eqZ l20.2.1 0) then
  some ((0,[]),l20.2.1,l20.2.2.1,l20.2.2.2.1,l20.2.2.2.2.1,l20.2.2.2.2.2.1,l20.2.2.2.2.2.2.1,l20.2.2.2.2.2.2.2.1,l20.2.2.2.2.2.2.2.2.1,l20.2.2.2.2.2.2.2.2.2.1,l20.2.2.2.2.2.2.2.2.2.2.1,l20.2.2.2.2.2.2.2.2.2.2.2.1,l20.2.2.2.2.2.2.2.2.2.2.2.2)
  else
  (bO (fun x=>dz.b1 c19 l20 x) 0)))
def fP (t1:Int) (t2:LF) (p3:Int):Option Bool :=
 some (!eqZ t1 p3)
def bm.b1 (s1:LT) (p2:Int) (v3:Int):Option ((Int) ⊕ (Int)) :=
 bif (ltZ v3 (s1.length:Int)) then
 ((idx s1 v3).bind fun v4 =>
 (fP v4.1 (v4.2.map (Uun 0)) p2).bind fun v'5 =>
 bif v'5 then
  some (.inr v3)
 else
  ((z64 (v3 + 1)).bind fun v6 =>
  some (.inl v6)))
 else
 some (.inr (-1))
def bm (s1:LT) (p2:Int):Option Int :=
 bO (fun x=>bm.b1 s1 p2 x) 0
def cv (s1:LT) (p2:Int):Option Bool :=
 (bm s1 p2).bind fun v3 =>
 some (leZ 0 v3)
def eo (kind1:Int) (p2:LT):Option Bool :=
 (cv p2 kind1).bind fun v3 =>
 some (!v3)
def cU.b1 (e5:LB) (l7:LT) (v19:Int) (result20:Int) (v21:LF):Option ((Int × Int × LF) ⊕ (Bool × Int × LF)) :=
 bif (ltZ v19 (l7.length:Int)) then
 ((idx l7 v19).bind fun v22 =>
 (idx e5 v19).bind fun v23 =>
 (app? v21 ([(v23,v22.1,((v22.2.map (Uun 0)).map (Umk 0)))]:LF)).bind fun l24 =>
 (z64 (v19 + 1)).bind fun v25 =>
 some (.inl (v25,result20,l24)))
 else
 some (.inr (true,result20,v21))
def cU.j1 (e1:Int) (e3:Bs) (e5:LB) (l7:LT) (v13:Bool):Option (Bool × Int × LF) :=
 bif v13 then
 ((eo 1 l7).bind fun v'14 =>
 some (v'14,1,[]))
 else
 (bif (eqZ e1 11) then
  ((idx l7 1).bind fun v15 =>
  (idx l7 2).bind fun v16 =>
  (cF v15.1 (v15.2.map (Uun 0)) v16.1 (v16.2.map (Uun 0))).bind fun u17 =>
  bif u17.2 then
  ((idx l7 0).bind fun v18 =>
  some ((eqZ v18.1 1),u17.1.1,(u17.1.2.map (Uun 0))))
  else
  some (false,u17.1.1,(u17.1.2.map (Uun 0))))
 else
  (bif (eqZ e1 13) then
  (bO (fun x=>cU.b1 e5 l7 x.1 x.2.1 x.2.2) (0,2,[]))
  else
  (bif (eqZ e1 14) then
   ((idx l7 0).bind fun v26 =>
   (bR (v26.2.map (Uun 0)) e3).bind fun l27 =>
   some (l27.2,l27.1.1,(l27.1.2.map (Uun 0))))
  else
   some (true,0,[]))))
def cU.j2 (e1:Int) (e3:Bs) (e5:LB) (l7:LT) (v8:Bool):Option (Bool × Int × LF) :=
 bif v8 then
 ((eo 0 l7).bind fun v'9 =>
 some (v'9,0,[]))
 else
 (bif (eqZ e1 1) then
  some (true,1,[])
 else
  (bif (eqZ e1 6) then
  ((eo 0 l7).bind fun v'10 =>
  some (v'10,1,[]))
  else
  (bif (eqZ e1 7) then
   ((eo 0 l7).bind fun v'11 =>
   bif v'11 then
   some (true,1,[])
   else
   ((eo 1 l7).bind fun v'12 =>
   some (v'12,1,[])))
  else
   ((bif (eqZ e1 8) then
   some (eqZ e1 8)
   else
   (bif (eqZ e1 9) then
    some (eqZ e1 9)
   else
    some (eqZ e1 10))).bind fun x =>
   cU.j1 e1 e3 e5 l7 x))))
def cU.j3 (ok28:Bool) (result29:Int) (result30:LF):Option (aK × Int) :=
 bif (!ok28) then
 some ((0,[]),13)
 else
 some ((result29,(result30.map (Umk 0))),0)
def cU (e1:Int) (e2:Int) (e3:Bs) (e4:Bs) (e5:LB) (e6:LE) (l7:LT):Option (aK × Int) :=
 ((bif (eqZ e1 3) then
 some (eqZ e1 3)
 else
 (bif (eqZ e1 4) then
  some (eqZ e1 4)
 else
  (bif (eqZ e1 5) then
  some (eqZ e1 5)
  else
  some (eqZ e1 16)))).bind fun x =>
 cU.j2 e1 e3 e5 l7 x).bind fun x =>
 cU.j3 x.1 x.2.1 x.2.2
def aw.j1 (e2:Int) (e3:Int) (e4:Bs) (e5:Bs) (e6:LB) (e7:LE) (l29:(LT) × Int × Bs × (LB) × (LF) × (LE) × (LU) × Bool × (LF) × (LE) × (LE) × Int × List (Bs × bH)) (v30:Bs) (v31:LB) (v32:LF) (v33:LE) (v34:LU) (v35:Bool) (v36:LF) (v37:LE) (v38:LE) (v39:Int) (v40:List (Bs × bH)):Option (aK × Int × Bs × (LB) × (LF) × (LE) × (LU) × Bool × (LF) × (LE) × (LE) × Int × List (Bs × bH)) :=
 (cU e2 e3 e4 e5 e6 e7 l29.1).bind fun p41 =>
 some ((p41.1.1,((p41.1.2.map (Uun 0)).map (Umk 0))),p41.2,v30,v31,v32,v33,v34,v35,v36,v37,v38,v39,v40)
def aw.j2 (Gr:Gr5) (locals1:LF) (e2:Int) (e3:Int) (e4:Bs) (e5:Bs) (e6:LB) (e7:LE) (j8:Bs) (j9:LB) (j10:LF) (j11:LE) (j12:LU) (j13:Bool) (j14:LF) (j15:LE) (j16:LE) (j17:Int) (p18:List (Bs × bH)) (v26:Bool):Option (aK × Int × Bs × (LB) × (LF) × (LE) × (LU) × Bool × (LF) × (LE) × (LE) × Int × List (Bs × bH)) :=
 bif v26 then
 ((ec Gr locals1 e2 e3 e4 e5 e6 e7 j8 j9 j10 j11 j12 j13 j14 j15 j16 j17 p18).bind fun v27 =>
 some ((v27.1.1,((v27.1.2.map (Uun 0)).map (Umk 0))),v27.2.1,v27.2.2.1,v27.2.2.2.1,v27.2.2.2.2.1,v27.2.2.2.2.2.1,v27.2.2.2.2.2.2.1,v27.2.2.2.2.2.2.2.1,v27.2.2.2.2.2.2.2.2.1,v27.2.2.2.2.2.2.2.2.2.1,v27.2.2.2.2.2.2.2.2.2.2.1,v27.2.2.2.2.2.2.2.2.2.2.2.1,v27.2.2.2.2.2.2.2.2.2.2.2.2))
 else
 (bif (eqZ e2 15) then
  ((dz Gr locals1 e2 e3 e4 e5 e6 e7 j8 j9 j10 j11 j12 j13 j14 j15 j16 j17 p18).bind fun c28 =>
  some ((c28.1.1,((c28.1.2.map (Uun 0)).map (Umk 0))),c28.2.1,c28.2.2.1,c28.2.2.2.1,c28.2.2.2.2.1,c28.2.2.2.2.2.1,c28.2.2.2.2.2.2.1,c28.2.2.2.2.2.2.2.1,c28.2.2.2.2.2.2.2.2.1,c28.2.2.2.2.2.2.2.2.2.1,c28.2.2.2.2.2.2.2.2.2.2.1,c28.2.2.2.2.2.2.2.2.2.2.2.1,c28.2.2.2.2.2.2.2.2.2.2.2.2))
 else
  ((db Gr locals1 e7 j8 j9 j10 j11 j12 j13 j14 j15 j16 j17 p18).bind fun l29 =>
  bif (!eqZ l29.2.1 0) then
  some ((0,[]),l29.2.1,l29.2.2.1,l29.2.2.2.1,l29.2.2.2.2.1,l29.2.2.2.2.2.1,l29.2.2.2.2.2.2.1,l29.2.2.2.2.2.2.2.1,l29.2.2.2.2.2.2.2.2.1,l29.2.2.2.2.2.2.2.2.2.1,l29.2.2.2.2.2.2.2.2.2.2.1,l29.2.2.2.2.2.2.2.2.2.2.2.1,l29.2.2.2.2.2.2.2.2.2.2.2.2)
  else
  ((bif (eqZ e2 16) then
   some (l29.2.2.1,l29.2.2.2.1,l29.2.2.2.2.1,l29.2.2.2.2.2.1,l29.2.2.2.2.2.2.1,l29.2.2.2.2.2.2.2.1,l29.2.2.2.2.2.2.2.2.1,l29.2.2.2.2.2.2.2.2.2.1,l29.2.2.2.2.2.2.2.2.2.2.1,(orI .i64 l29.2.2.2.2.2.2.2.2.2.2.2.1 e3),l29.2.2.2.2.2.2.2.2.2.2.2.2)
  else
   some (l29.2.2.1,l29.2.2.2.1,l29.2.2.2.2.1,l29.2.2.2.2.2.1,l29.2.2.2.2.2.2.1,l29.2.2.2.2.2.2.2.1,l29.2.2.2.2.2.2.2.2.1,l29.2.2.2.2.2.2.2.2.2.1,l29.2.2.2.2.2.2.2.2.2.2.1,l29.2.2.2.2.2.2.2.2.2.2.2.1,l29.2.2.2.2.2.2.2.2.2.2.2.2)).bind fun x =>
  aw.j1 e2 e3 e4 e5 e6 e7 l29 x.1 x.2.1 x.2.2.1 x.2.2.2.1 x.2.2.2.2.1 x.2.2.2.2.2.1 x.2.2.2.2.2.2.1 x.2.2.2.2.2.2.2.1 x.2.2.2.2.2.2.2.2.1 x.2.2.2.2.2.2.2.2.2.1 x.2.2.2.2.2.2.2.2.2.2)))
def aw.body (Gr:Gr5) (locals1:LF) (e2:Int) (e3:Int) (e4:Bs) (e5:Bs) (e6:LB) (e7:LE) (j8:Bs) (j9:LB) (j10:LF) (j11:LE) (j12:LU) (j13:Bool) (j14:LF) (j15:LE) (j16:LE) (j17:Int) (p18:List (Bs × bH)):Option (aK × Int × Bs × (LB) × (LF) × (LE) × (LU) × Bool × (LF) × (LE) × (LE) × Int × List (Bs × bH)) :=
 bif (eqZ e2 2) then
 ((bR locals1 e4).bind fun l19 =>
 bif l19.2 then
  some ((l19.1.1,((l19.1.2.map (Uun 0)).map (Umk 0))),0,j8,j9,j10,j11,j12,j13,j14,j15,j16,j17,p18)
 else
  some ((0,[]),12,j8,j9,j10,j11,j12,j13,j14,j15,j16,j17,p18))
 else
 (bif (eqZ e2 12) then
  ((idx e7 0).bind fun v20 =>
  (Gr locals1 v20.1 v20.2.1 v20.2.2.1 v20.2.2.2.1 v20.2.2.2.2.1 (v20.2.2.2.2.2.map (Uun 1)) j8 j9 j10 j11 j12 j13 j14 j15 j16 j17 p18).bind fun f21 =>
  bif (!eqZ f21.2.1 0) then
  some ((0,[]),f21.2.1,f21.2.2.1,f21.2.2.2.1,f21.2.2.2.2.1,f21.2.2.2.2.2.1,f21.2.2.2.2.2.2.1,f21.2.2.2.2.2.2.2.1,f21.2.2.2.2.2.2.2.2.1,f21.2.2.2.2.2.2.2.2.2.1,f21.2.2.2.2.2.2.2.2.2.2.1,f21.2.2.2.2.2.2.2.2.2.2.2.1,f21.2.2.2.2.2.2.2.2.2.2.2.2)
  else
  ((bK locals1).bind fun f22 =>
  (app? f22 ([(e4,f21.1.1,((f21.1.2.map (Uun 0)).map (Umk 0)))]:LF)).bind fun l23 =>
  (idx e7 1).bind fun v24 =>
  (Gr l23 v24.1 v24.2.1 v24.2.2.1 v24.2.2.2.1 v24.2.2.2.2.1 (v24.2.2.2.2.2.map (Uun 1)) f21.2.2.1 f21.2.2.2.1 f21.2.2.2.2.1 f21.2.2.2.2.2.1 f21.2.2.2.2.2.2.1 f21.2.2.2.2.2.2.2.1 f21.2.2.2.2.2.2.2.2.1 f21.2.2.2.2.2.2.2.2.2.1 f21.2.2.2.2.2.2.2.2.2.2.1 f21.2.2.2.2.2.2.2.2.2.2.2.1 f21.2.2.2.2.2.2.2.2.2.2.2.2).bind fun f25 =>
  some ((f25.1.1,((f25.1.2.map (Uun 0)).map (Umk 0))),f25.2.1,f25.2.2.1,f25.2.2.2.1,f25.2.2.2.2.1,f25.2.2.2.2.2.1,f25.2.2.2.2.2.2.1,f25.2.2.2.2.2.2.2.1,f25.2.2.2.2.2.2.2.2.1,f25.2.2.2.2.2.2.2.2.2.1,f25.2.2.2.2.2.2.2.2.2.2.1,f25.2.2.2.2.2.2.2.2.2.2.2.1,f25.2.2.2.2.2.2.2.2.2.2.2.2)))
 else
  ((bif (eqZ e2 17) then
  some (eqZ e2 17)
  else
  some (eqZ e2 18)).bind fun x =>
  aw.j2 Gr locals1 e2 e3 e4 e5 e6 e7 j8 j9 j10 j11 j12 j13 j14 j15 j16 j17 p18 x))
def aw.rec:Nat → LF → Int → Int → Bs → Bs → LB → LE → Bs → LB → LF → LE → LU → Bool → LF → LE → LE → Int → (List (Bs × bH)) → Option (aK × Int × Bs × (LB) × (LF) × (LE) × (LU) × Bool × (LF) × (LE) × (LE) × Int × List (Bs × bH))
 | 0=>fun _ _ _ _ _ _ _ _ _ _ _ _ _ _ _ _ _ _=>none
 | n + 1=>aw.body (aw.rec n)
def aw (locals1:LF) (e2:Int) (e3:Int) (e4:Bs) (e5:Bs) (e6:LB) (e7:LE) (j8:Bs) (j9:LB) (j10:LF) (j11:LE) (j12:LU) (j13:Bool) (j14:LF) (j15:LE) (j16:LE) (j17:Int) (p18:List (Bs × bH)):Option (aK × Int × Bs × (LB) × (LF) × (LE) × (LU) × Bool × (LF) × (LE) × (LE) × Int × List (Bs × bH)):=aw.rec Fuel.n locals1 e2 e3 e4 e5 e6 e7 j8 j9 j10 j11 j12 j13 j14 j15 j16 j17 p18
def aE.j1 (v24:Int) (v28:Bool):Option ((Int) ⊕ ((Unit) ⊕ ((Int × Bs × (LB) × (LF) × (LE) × (LU) × Bool × (LF) × (LE) × (LE) × Int × List (Bs × bH)) ⊕ (Unit)))) :=
 bif v28 then
 some (.inr (.inr (.inr ())))
 else
 ((z64 (v24 + 1)).bind fun v29 =>
 some (.inl v29))
def aE.b1 (v23:bH) (v24:Int):Option ((Int) ⊕ ((Unit) ⊕ ((Int × Bs × (LB) × (LF) × (LE) × (LU) × Bool × (LF) × (LE) × (LE) × Int × List (Bs × bH)) ⊕ (Unit)))) :=
 bif (ltZ v24 (v23.2.length:Int)) then
 ((idx v23.2 v24).bind fun v25 =>
 ((bI v25.2.2.1.1 (v25.2.2.1.2.map (Uun 0))).bind fun r26 =>
 bif (!r26) then
  some true
 else
  ((bh v25.2.1).bind fun t27 =>
  some t27)).bind fun x =>
 aE.j1 v24 x)
 else
 some (.inr (.inl ()))
def aE.j2 (v11:Int) (j12:Bs) (j13:LB) (j14:LF) (j15:LE) (j16:LU) (j17:Bool) (j18:LF) (j19:LE) (j20:LE) (j21:Int) (v22:List (Bs × bH)) (v23:bH):Option ((Int × Bs × (LB) × (LF) × (LE) × (LU) × Bool × (LF) × (LE) × (LE) × Int × List (Bs × bH)) ⊕ (Unit)) :=
 bif (!(cD v22 v23.1).isSome) then
 ((z64 (v11 + 1)).bind fun v30 =>
 some (.inl (v30,j12,j13,j14,j15,j16,j17,j18,j19,j20,j21,(fE v22 v23.1 v23))))
 else
 ((z64 (v11 + 1)).bind fun v31 =>
 some (.inl (v31,j12,j13,j14,j15,j16,j17,j18,j19,j20,j21,v22)))
def aE.b2 (faces10:LA) (v11:Int) (j12:Bs) (j13:LB) (j14:LF) (j15:LE) (j16:LU) (j17:Bool) (j18:LF) (j19:LE) (j20:LE) (j21:Int) (v22:List (Bs × bH)):Option ((Int × Bs × (LB) × (LF) × (LE) × (LU) × Bool × (LF) × (LE) × (LE) × Int × List (Bs × bH)) ⊕ (Unit)) :=
 bif (ltZ v11 (faces10.length:Int)) then
 ((idx faces10 v11).bind fun v23 =>
 (bO (fun x=>aE.b1 v23 x) 0).bind fun x=>match x with
 | .inl x =>
  aE.j2 v11 j12 j13 j14 j15 j16 j17 j18 j19 j20 j21 v22 v23
 | .inr r=>some r)
 else
 (Option.map Sum.inr (none))
def aE (m1:Bs) (m2:LB) (m3:LF) (m4:LE) (m5:LU) (m6:Bool) (m7:LF) (m8:LE) (m9:LE) (faces10:LA):Option Unit :=
 bO (fun x=>aE.b2 faces10 x.1 x.2.1 x.2.2.1 x.2.2.2.1 x.2.2.2.2.1 x.2.2.2.2.2.1 x.2.2.2.2.2.2.1 x.2.2.2.2.2.2.2.1 x.2.2.2.2.2.2.2.2.1 x.2.2.2.2.2.2.2.2.2.1 x.2.2.2.2.2.2.2.2.2.2.1 x.2.2.2.2.2.2.2.2.2.2.2) (0,m1,m2,m3,m4,m5,m6,m7,m8,m9,0,([]:List (Bs × bH)))
def gy.j1 (m1:df) (faces2:LA) (locals3:LF) (e4:Int) (e5:Int) (e6:Bs) (e7:Bs) (e8:LB) (e9:LE) (v13:Bool):Option (aK × Int × Int) :=
 bif v13 then
 some ((0,[]),0,1)
 else
 (orT (
  (bj m1.1 m1.2.1 (m1.2.2.1.map (Uun 0)) (m1.2.2.2.1.map (Uun 1)) m1.2.2.2.2.1 m1.2.2.2.2.2.1 (m1.2.2.2.2.2.2.1.map (Uun 0)) (m1.2.2.2.2.2.2.2.1.map (Uun 1)) (m1.2.2.2.2.2.2.2.2.map (Uun 1)) faces2).bind fun n14 =>
  (aw locals3 e4 e5 e6 e7 e8 e9 n14.1 n14.2.1 n14.2.2.1 n14.2.2.2.1 n14.2.2.2.2.1 n14.2.2.2.2.2.1 n14.2.2.2.2.2.2.1 n14.2.2.2.2.2.2.2.1 n14.2.2.2.2.2.2.2.2.1 n14.2.2.2.2.2.2.2.2.2.1 n14.2.2.2.2.2.2.2.2.2.2).bind fun f15 =>
  bif (!eqZ f15.2.1 0) then
  some ((0,[]),0,f15.2.1)
  else
  ((aX f15.1.1 (f15.1.2.map (Uun 0))).bind fun v16 =>
  some ((v16.1,((v16.2.map (Uun 0)).map (Umk 0))),f15.2.2.2.2.2.2.2.2.2.2.2.1,0))) (
  (aE m1.1 m1.2.1 (m1.2.2.1.map (Uun 0)) (m1.2.2.2.1.map (Uun 1)) m1.2.2.2.2.1 m1.2.2.2.2.2.1 (m1.2.2.2.2.2.2.1.map (Uun 0)) (m1.2.2.2.2.2.2.2.1.map (Uun 1)) (m1.2.2.2.2.2.2.2.2.map (Uun 1)) faces2).bind fun v17 =>
  some ((0,[]),0,1)))
def gy (m1:df) (faces2:LA) (locals3:LF) (e4:Int) (e5:Int) (e6:Bs) (e7:Bs) (e8:LB) (e9:LE):Option (aK × Int × Int) :=
 (aO locals3).bind fun f10 =>
 (bif f10 then
 some true
 else
 ((cn e4 e5 e6 e7 e8 e9).bind fun r11 =>
 bif (!r11) then
  some true
 else
  ((au m1.1 m1.2.1 (m1.2.2.1.map (Uun 0)) (m1.2.2.2.1.map (Uun 1)) m1.2.2.2.2.1 m1.2.2.2.2.2.1 (m1.2.2.2.2.2.2.1.map (Uun 0)) (m1.2.2.2.2.2.2.2.1.map (Uun 1)) (m1.2.2.2.2.2.2.2.2.map (Uun 1))).bind fun r12 =>
  some (!r12)))).bind fun x =>
 gy.j1 m1 faces2 locals3 e4 e5 e6 e7 e8 e9 x
def dJ (Gr:Gr6) (locals1:LF) (e2:Int) (e3:Int) (e4:Bs) (e5:Bs) (e6:LB) (e7:LE) (j8:Bs) (j9:Bool) (j10:Int):Option (aK × Int × Bs × Bool × Int) :=
 (bR [] e4).bind fun l11 =>
 bif (!l11.2) then
 some ((0,[]),12,j8,j9,j10)
 else
 (bif (eqZ e2 18) then
  ((idx e7 0).bind fun v12 =>
  (Gr locals1 v12.1 v12.2.1 v12.2.2.1 v12.2.2.2.1 v12.2.2.2.2.1 (v12.2.2.2.2.2.map (Uun 1)) j8 j9 j10).bind fun v13 =>
  bif (!eqZ v13.2.1 0) then
  some ((0,[]),v13.2.1,v13.2.2.1,v13.2.2.2.1,v13.2.2.2.2)
  else
  ((bf v13.1.1 (v13.1.2.map (Uun 0)) l11.1.1 (l11.1.2.map (Uun 0))).bind fun b14 =>
  bif (!b14) then
   some ((0,[]),13,v13.2.2.1,v13.2.2.2.1,v13.2.2.2.2)
  else
   some ((l11.1.1,((l11.1.2.map (Uun 0)).map (Umk 0))),0,v13.2.2.1,v13.2.2.2.1,v13.2.2.2.2)))
 else
  some ((l11.1.1,((l11.1.2.map (Uun 0)).map (Umk 0))),0,j8,j9,j10))
def cw.j1 (s11:Int) (v13:Bool):Option (gD × Bool) :=
 bif v13 then
 some ((([]:Bs),[],(0,[]),0),false)
 else
 ((idx (((none:Option bH).getD (([]:Bs),[])).2) s11).bind fun v14 =>
 some ((v14.1,v14.2.1,(v14.2.2.1.1,((v14.2.2.1.2.map (Uun 0)).map (Umk 0))),v14.2.2.2),true))
def cw.j2 (e1:Int) (e2:Int) (e3:Bs) (e4:Bs) (e5:LB) (e6:LE):Option (gD × Bool) :=
 (aQ (((none:Option bH).getD (([]:Bs),[])).2) e1 e2 e3 e4 e5 e6).bind fun s11 =>
 (bif (!(none:Option bH).isSome) then
 some true
 else
 (bif (ltZ s11 0) then
  some true
 else
  ((bZ [] e4).bind fun s12 =>
  some (!s12)))).bind fun x =>
 cw.j1 s11 x
def cw (e1:Int) (e2:Int) (e3:Bs) (e4:Bs) (e5:LB) (e6:LE) (j7:Bs) (j8:Bool) (j9:Int):Option (gD × Bool) :=
 ((bif (decide (e4 = ([]:Bs))) then
 ((aH [] e1 e2 e3 e4 e5 e6).bind fun f10 =>
 bif (ltZ f10 0) then
  some (.inr ((([]:Bs),[],(0,[]),0),false))
 else
  none)
 else
 some (.inl ())):Option ((Unit) ⊕ (gD × Bool))).bind fun x=>match x with
 | .inl x =>
 cw.j2 e1 e2 e3 e4 e5 e6
 | .inr r=>some r
def cE.b1 (Gr:Gr6) (locals1:LF) (l2:LE) (v6:Int) (j7:Bs) (j8:Bool) (j9:Int) (out10:LT):Option ((Int × Bs × Bool × Int × LT) ⊕ ((LT) × Int × Bs × Bool × Int)) :=
 bif (ltZ v6 (l2.length:Int)) then
 ((idx l2 v6).bind fun v11 =>
 (Gr locals1 v11.1 v11.2.1 v11.2.2.1 v11.2.2.2.1 v11.2.2.2.2.1 (v11.2.2.2.2.2.map (Uun 1)) j7 j8 j9).bind fun v12 =>
 bif (!eqZ v12.2.1 0) then
  some (.inr ([],v12.2.1,v12.2.2.1,v12.2.2.2.1,v12.2.2.2.2))
 else
  ((app? out10 ([(v12.1.1,((v12.1.2.map (Uun 0)).map (Umk 0)))]:LT)).bind fun l13 =>
  (z64 (v6 + 1)).bind fun v14 =>
  some (.inl (v14,v12.2.2.1,v12.2.2.2.1,v12.2.2.2.2,l13))))
 else
 some (.inr (out10,0,j7,j8,j9))
def cE (Gr:Gr6) (locals1:LF) (l2:LE) (j3:Bs) (j4:Bool) (j5:Int):Option ((LT) × Int × Bs × Bool × Int) :=
 bO (fun x=>cE.b1 Gr locals1 l2 x.1 x.2.1 x.2.2.1 x.2.2.2.1 x.2.2.2.2) (0,j3,j4,j5,[])
def dh.b1 (v11:gD × Bool) (v12:(LT) × Int × Bs × Bool × Int) (v13:Int):Option ((Int) ⊕ (aK × Int × Bs × Bool × Int)) :=
 bif (ltZ v13 (v12.1.length:Int)) then
 ((idx v12.1 v13).bind fun v14 =>
 (idx v11.1.2.1 v13).bind fun v15 =>
 (bf v14.1 (v14.2.map (Uun 0)) v15.1 (v15.2.map (Uun 0))).bind fun b16 =>
 bif (!b16) then
  some (.inr ((0,[]),13,v12.2.2.1,v12.2.2.2.1,v12.2.2.2.2))
 else
  ((z64 (v13 + 1)).bind fun v17 =>
  some (.inl v17)))
 else
 some (.inr ((v11.1.2.2.1.1,((v11.1.2.2.1.2.map (Uun 0)).map (Umk 0))),0,v12.2.2.1,v12.2.2.2.1,(orI .i64 v12.2.2.2.2 v11.1.2.2.2)))
def dh (Gr:Gr6) (locals1:LF) (e2:Int) (e3:Int) (e4:Bs) (e5:Bs) (e6:LB) (e7:LE) (j8:Bs) (j9:Bool) (j10:Int):Option (aK × Int × Bs × Bool × Int) :=
 (cw e2 e3 e4 e5 e6 e7 j8 j9 j10).bind fun v11 =>
 bif (!v11.2) then
 some ((0,[]),12,j8,j9,j10)
 else
 (bif (!eqZ (v11.1.2.1.length:Int) (e7.length:Int)) then
  some ((0,[]),13,j8,j9,j10)
 else
  ((cE Gr locals1 e7 j8 j9 j10).bind fun v12 =>
  bif (!eqZ v12.2.1 0) then
  some ((0,[]),v12.2.1,v12.2.2.1,v12.2.2.2.1,v12.2.2.2.2)
  else
  (bO (fun x=>dh.b1 v11 v12 x) 0)))
def az.j1 (e2:Int) (e3:Int) (e4:Bs) (e5:Bs) (e6:LB) (e7:LE) (v21:(LT) × Int × Bs × Bool × Int) (v22:Bs) (v23:Bool) (v24:Int):Option (aK × Int × Bs × Bool × Int) :=
 (cU e2 e3 e4 e5 e6 e7 v21.1).bind fun p25 =>
 some ((p25.1.1,((p25.1.2.map (Uun 0)).map (Umk 0))),p25.2,v22,v23,v24)
def az.j2 (Gr:Gr6) (locals1:LF) (e2:Int) (e3:Int) (e4:Bs) (e5:Bs) (e6:LB) (e7:LE) (j8:Bs) (j9:Bool) (j10:Int) (v18:Bool):Option (aK × Int × Bs × Bool × Int) :=
 bif v18 then
 ((dJ Gr locals1 e2 e3 e4 e5 e6 e7 j8 j9 j10).bind fun v19 =>
 some ((v19.1.1,((v19.1.2.map (Uun 0)).map (Umk 0))),v19.2.1,v19.2.2.1,v19.2.2.2.1,v19.2.2.2.2))
 else
 (bif (eqZ e2 15) then
  ((dh Gr locals1 e2 e3 e4 e5 e6 e7 j8 j9 j10).bind fun v20 =>
  some ((v20.1.1,((v20.1.2.map (Uun 0)).map (Umk 0))),v20.2.1,v20.2.2.1,v20.2.2.2.1,v20.2.2.2.2))
 else
  ((cE Gr locals1 e7 j8 j9 j10).bind fun v21 =>
  bif (!eqZ v21.2.1 0) then
  some ((0,[]),v21.2.1,v21.2.2.1,v21.2.2.2.1,v21.2.2.2.2)
  else
  ((bif (eqZ e2 16) then
   some (v21.2.2.1,v21.2.2.2.1,(orI .i64 v21.2.2.2.2 e3))
  else
   some (v21.2.2.1,v21.2.2.2.1,v21.2.2.2.2)).bind fun x =>
  az.j1 e2 e3 e4 e5 e6 e7 v21 x.1 x.2.1 x.2.2)))
def az.body (Gr:Gr6) (locals1:LF) (e2:Int) (e3:Int) (e4:Bs) (e5:Bs) (e6:LB) (e7:LE) (j8:Bs) (j9:Bool) (j10:Int):Option (aK × Int × Bs × Bool × Int) :=
 bif (eqZ e2 2) then
 ((bR locals1 e4).bind fun l11 =>
 bif l11.2 then
  some ((l11.1.1,((l11.1.2.map (Uun 0)).map (Umk 0))),0,j8,j9,j10)
 else
  some ((0,[]),12,j8,j9,j10))
 else
 (bif (eqZ e2 12) then
  ((idx e7 0).bind fun v12 =>
  (Gr locals1 v12.1 v12.2.1 v12.2.2.1 v12.2.2.2.1 v12.2.2.2.2.1 (v12.2.2.2.2.2.map (Uun 1)) j8 j9 j10).bind fun v13 =>
  bif (!eqZ v13.2.1 0) then
  some ((0,[]),v13.2.1,v13.2.2.1,v13.2.2.2.1,v13.2.2.2.2)
  else
  ((bK locals1).bind fun f14 =>
  (app? f14 ([(e4,v13.1.1,((v13.1.2.map (Uun 0)).map (Umk 0)))]:LF)).bind fun l15 =>
  (idx e7 1).bind fun v16 =>
  (Gr l15 v16.1 v16.2.1 v16.2.2.1 v16.2.2.2.1 v16.2.2.2.2.1 (v16.2.2.2.2.2.map (Uun 1)) v13.2.2.1 v13.2.2.2.1 v13.2.2.2.2).bind fun v17 =>
  some ((v17.1.1,((v17.1.2.map (Uun 0)).map (Umk 0))),v17.2.1,v17.2.2.1,v17.2.2.2.1,v17.2.2.2.2)))
 else
  ((bif (eqZ e2 17) then
  some (eqZ e2 17)
  else
  some (eqZ e2 18)).bind fun x =>
  az.j2 Gr locals1 e2 e3 e4 e5 e6 e7 j8 j9 j10 x))
def az.rec:Nat → LF → Int → Int → Bs → Bs → LB → LE → Bs → Bool → Int → Option (aK × Int × Bs × Bool × Int)
 | 0=>fun _ _ _ _ _ _ _ _ _ _=>none
 | n + 1=>az.body (az.rec n)
def az (locals1:LF) (e2:Int) (e3:Int) (e4:Bs) (e5:Bs) (e6:LB) (e7:LE) (j8:Bs) (j9:Bool) (j10:Int):Option (aK × Int × Bs × Bool × Int):=az.rec Fuel.n locals1 e2 e3 e4 e5 e6 e7 j8 j9 j10
def gh (name1:Bs) (locals2:LF) (e3:Int) (e4:Int) (e5:Bs) (e6:Bs) (e7:LB) (e8:LE) (want9:Int) (want10:LF):Option Int :=
 (az locals2 e3 e4 e5 e6 e7 e8 name1 false 0).bind fun v11 =>
 bif (!eqZ v11.2.1 0) then
 some v11.2.1
 else
 (bif (!eqZ v11.2.2.2.2 0) then
  some 14
 else
  ((bf v11.1.1 (v11.1.2.map (Uun 0)) want9 want10).bind fun b12 =>
  bif (!b12) then
  some 13
  else
  some 0))
def cB.b1 (m1:Bs) (m3:LF) (m4:LE) (v10:Int):Option ((Int) ⊕ ((Unit) ⊕ (Bs × Int))) :=
 bif (ltZ v10 (m3.length:Int)) then
 ((idx m3 v10).bind fun v11 =>
 (idx m4 v10).bind fun v12 =>
 (gh m1 [] v12.1 v12.2.1 v12.2.2.1 v12.2.2.2.1 v12.2.2.2.2.1 (v12.2.2.2.2.2.map (Uun 1)) v11.2.1 (v11.2.2.map (Uun 0))).bind fun p13 =>
 bif (!eqZ p13 0) then
  some (.inr (.inr (v11.1,p13)))
 else
  ((z64 (v10 + 1)).bind fun v14 =>
  some (.inl v14)))
 else
 some (.inr (.inl ()))
def cB.b2 (m1:Bs) (m3:LF) (m7:LF) (m8:LE) (v15:Int):Option ((Int) ⊕ ((Unit) ⊕ (Bs × Int))) :=
 bif (ltZ v15 (m3.length:Int)) then
 ((idx m3 v15).bind fun v16 =>
 (idx m8 v15).bind fun v17 =>
 (gh m1 m7 v17.1 v17.2.1 v17.2.2.1 v17.2.2.2.1 v17.2.2.2.2.1 (v17.2.2.2.2.2.map (Uun 1)) v16.2.1 (v16.2.2.map (Uun 0))).bind fun p18 =>
 bif (!eqZ p18 0) then
  some (.inr (.inr (v16.1,p18)))
 else
  ((z64 (v15 + 1)).bind fun v19 =>
  some (.inl v19)))
 else
 some (.inr (.inl ()))
def cB.b3 (m1:Bs) (m3:LF) (m7:LF) (m9:LE) (v20:Int):Option ((Int) ⊕ (Bs × Int)) :=
 bif (ltZ v20 (m7.length:Int)) then
 ((idx m7 v20).bind fun v21 =>
 (idx m9 v20).bind fun v22 =>
 (gh m1 m3 v22.1 v22.2.1 v22.2.2.1 v22.2.2.2.1 v22.2.2.2.2.1 (v22.2.2.2.2.2.map (Uun 1)) v21.2.1 (v21.2.2.map (Uun 0))).bind fun p23 =>
 bif (!eqZ p23 0) then
  some (.inr (v21.1,p23))
 else
  ((z64 (v20 + 1)).bind fun v24 =>
  some (.inl v24)))
 else
 some (.inr (([]:Bs),0))
def cB.j1 (m1:Bs) (m3:LF) (m7:LF) (m9:LE):Option (Bs × Int) :=
 bO (fun x=>cB.b3 m1 m3 m7 m9 x) 0
def cB.j2 (m1:Bs) (m3:LF) (m6:Bool) (m7:LF) (m8:LE) (m9:LE):Option (Bs × Int) :=
 bif (!m6) then
 some (([]:Bs),0)
 else
 ((bO (fun x=>cB.b2 m1 m3 m7 m8 x) 0).bind fun x=>match x with
 | .inl x =>
  cB.j1 m1 m3 m7 m9
 | .inr r=>some r)
def cB (m1:Bs) (m2:LB) (m3:LF) (m4:LE) (m5:LU) (m6:Bool) (m7:LF) (m8:LE) (m9:LE):Option (Bs × Int) :=
 (bO (fun x=>cB.b1 m1 m3 m4 x) 0).bind fun x=>match x with
 | .inl x =>
 cB.j2 m1 m3 m6 m7 m8 m9
 | .inr r=>some r
def eF.j1 (v5:Int) (v6:Bs) (v7:Bool):Option ((Int) ⊕ ((Unit) ⊕ (Bs × Int))) :=
 bif v7 then
 some (.inr (.inr (v6,12)))
 else
 ((z64 (v5 + 1)).bind fun v8 =>
 some (.inl v8))
def eF.b1 (m1:df) (n3:Bs × (LB) × (LF) × (LE) × (LU) × Bool × (LF) × (LE) × (LE) × Int × List (Bs × bH)) (v5:Int):Option ((Int) ⊕ ((Unit) ⊕ (Bs × Int))) :=
 bif (ltZ v5 (m1.2.1.length:Int)) then
 ((idx m1.2.1 v5).bind fun v6 =>
 (bif (!(cD n3.2.2.2.2.2.2.2.2.2.2 v6).isSome) then
  some true
 else
  some (decide (v6 = m1.1))).bind fun x =>
 eF.j1 v5 v6 x)
 else
 some (.inr (.inl ()))
def eF.b2 (m1:df) (v10:Int) (j11:Bs) (j12:LB) (j13:LF) (j14:LE) (j15:LU) (j16:Bool) (j17:LF) (j18:LE) (j19:LE) (j20:Int) (v21:List (Bs × bH)):Option ((Int × Bs × (LB) × (LF) × (LE) × (LU) × Bool × (LF) × (LE) × (LE) × Int × List (Bs × bH)) ⊕ (Bs × Int)) :=
 bif (ltZ v10 (m1.2.2.2.2.1.length:Int)) then
 ((idx m1.2.2.2.2.1 v10).bind fun v22 =>
 (aw (v22.2.2.1.map (Uun 0)) v22.2.2.2.2.2.1 v22.2.2.2.2.2.2.1 v22.2.2.2.2.2.2.2.1 v22.2.2.2.2.2.2.2.2.1 v22.2.2.2.2.2.2.2.2.2.1 (v22.2.2.2.2.2.2.2.2.2.2.map (Uun 1)) j11 j12 j13 j14 j15 j16 j17 j18 j19 0 v21).bind fun f23 =>
 bif (!eqZ f23.2.1 0) then
  some (.inr (v22.1,f23.2.1))
 else
  ((bf f23.1.1 (f23.1.2.map (Uun 0)) v22.2.2.2.1.1 (v22.2.2.2.1.2.map (Uun 0))).bind fun b24 =>
  bif (!b24) then
  some (.inr (v22.1,13))
  else
  (bif (!eqZ (anI .i64 f23.2.2.2.2.2.2.2.2.2.2.2.1 v22.2.2.2.2.1) 0) then
   some (.inr (v22.1,14))
  else
   ((z64 (v10 + 1)).bind fun v25 =>
   some (.inl (v25,f23.2.2.1,f23.2.2.2.1,f23.2.2.2.2.1,f23.2.2.2.2.2.1,f23.2.2.2.2.2.2.1,f23.2.2.2.2.2.2.2.1,f23.2.2.2.2.2.2.2.2.1,f23.2.2.2.2.2.2.2.2.2.1,f23.2.2.2.2.2.2.2.2.2.2.1,f23.2.2.2.2.2.2.2.2.2.2.2.1,f23.2.2.2.2.2.2.2.2.2.2.2.2))))))
 else
 some (.inr (([]:Bs),0))
def eF.j2 (m1:df) (n3:Bs × (LB) × (LF) × (LE) × (LU) × Bool × (LF) × (LE) × (LE) × Int × List (Bs × bH)):Option (Bs × Int) :=
 (cB m1.1 m1.2.1 (m1.2.2.1.map (Uun 0)) (m1.2.2.2.1.map (Uun 1)) m1.2.2.2.2.1 m1.2.2.2.2.2.1 (m1.2.2.2.2.2.2.1.map (Uun 0)) (m1.2.2.2.2.2.2.2.1.map (Uun 1)) (m1.2.2.2.2.2.2.2.2.map (Uun 1))).bind fun m9 =>
 bif (!eqZ m9.2 0) then
 some (m9.1,m9.2)
 else
 (bO (fun x=>eF.b2 m1 x.1 x.2.1 x.2.2.1 x.2.2.2.1 x.2.2.2.2.1 x.2.2.2.2.2.1 x.2.2.2.2.2.2.1 x.2.2.2.2.2.2.2.1 x.2.2.2.2.2.2.2.2.1 x.2.2.2.2.2.2.2.2.2.1 x.2.2.2.2.2.2.2.2.2.2.1 x.2.2.2.2.2.2.2.2.2.2.2) (0,n3.1,n3.2.1,n3.2.2.1,n3.2.2.2.1,n3.2.2.2.2.1,n3.2.2.2.2.2.1,n3.2.2.2.2.2.2.1,n3.2.2.2.2.2.2.2.1,n3.2.2.2.2.2.2.2.2.1,n3.2.2.2.2.2.2.2.2.2.1,n3.2.2.2.2.2.2.2.2.2.2))
def eF (m1:df) (faces2:LA):Option (Bs × Int) :=
 orT (
 (bj m1.1 m1.2.1 (m1.2.2.1.map (Uun 0)) (m1.2.2.2.1.map (Uun 1)) m1.2.2.2.2.1 m1.2.2.2.2.2.1 (m1.2.2.2.2.2.2.1.map (Uun 0)) (m1.2.2.2.2.2.2.2.1.map (Uun 1)) (m1.2.2.2.2.2.2.2.2.map (Uun 1)) faces2).bind fun n3 =>
 (au m1.1 m1.2.1 (m1.2.2.1.map (Uun 0)) (m1.2.2.2.1.map (Uun 1)) m1.2.2.2.2.1 m1.2.2.2.2.2.1 (m1.2.2.2.2.2.2.1.map (Uun 0)) (m1.2.2.2.2.2.2.2.1.map (Uun 1)) (m1.2.2.2.2.2.2.2.2.map (Uun 1))).bind fun r4 =>
 bif (!r4) then
  some (([]:Bs),1)
 else
  ((bO (fun x=>eF.b1 m1 n3 x) 0).bind fun x=>match x with
  | .inl x =>
  eF.j2 m1 n3
  | .inr r=>some r)) (
 (aE m1.1 m1.2.1 (m1.2.2.1.map (Uun 0)) (m1.2.2.2.1.map (Uun 1)) m1.2.2.2.2.1 m1.2.2.2.2.2.1 (m1.2.2.2.2.2.2.1.map (Uun 0)) (m1.2.2.2.2.2.2.2.1.map (Uun 1)) (m1.2.2.2.2.2.2.2.2.map (Uun 1)) faces2).bind fun v26 =>
 some (([]:Bs),1))
def gu (a1:Int) (a2:LF) (b3:Int) (b4:LF):Option Bool :=
 (bI a1 a2).bind fun r5 =>
 bif r5 then
 ((bI b3 b4).bind fun r6 =>
 bif r6 then
  ((bf a1 a2 b3 b4).bind fun b7 =>
  some b7)
 else
  some false)
 else
 some false
def cg.j1 (i3:Int) (v9:Bool):Option ((Int) ⊕ (Bool)) :=
 bif v9 then
 some (.inr false)
 else
 ((z64 (i3 + 1)).bind fun v10 =>
 some (.inl v10))
def cg.b1 (Gr:Gr1) (a1:LF) (b2:LF) (i3:Int):Option ((Int) ⊕ (Bool)) :=
 bif (ltZ i3 (a1.length:Int)) then
 (((idx a1 i3).bind fun v4 =>
 (idx b2 i3).bind fun v5 =>
 bif (!decide (v4.1 = v5.1)) then
  some true
 else
  ((idx a1 i3).bind fun v6 =>
  (idx b2 i3).bind fun v7 =>
  (Gr v6.2.1 (v6.2.2.map (Uun 0)) v7.2.1 (v7.2.2.map (Uun 0))).bind fun s8 =>
  some (!s8))).bind fun x =>
 cg.j1 i3 x)
 else
 some (.inr true)
def cg (Gr:Gr1) (a1:LF) (b2:LF):Option Bool :=
 bif (!eqZ (a1.length:Int) (b2.length:Int)) then
 some false
 else
 (bO (fun x=>cg.b1 Gr a1 b2 x) 0)
def aY.body (Gr:Gr1) (a1:Int) (a2:LF) (b3:Int) (b4:LF):Option Bool :=
 bif (eqZ a1 b3) then
 ((cg Gr a2 b4).bind fun s5 =>
 some s5)
 else
 some false
def aY.rec:Nat → Int → LF → Int → LF → Option Bool
 | 0=>fun _ _ _ _=>none
 | n + 1=>aY.body (aY.rec n)
def aY (a1:Int) (a2:LF) (b3:Int) (b4:LF):Option Bool:=aY.rec Fuel.n a1 a2 b3 b4
def cX (a1:Int) (a2:LF) (b3:Int) (b4:LF):Option Bool :=
 (aY a1 a2 b3 b4).bind fun s5 =>
 some s5
def eV:Option Bool :=
 (dm ([(([120]:Bs),0,[]),(([121]:Bs),1,[])]:LF)).bind fun r1 =>
 (dm ([(([120]:Bs),0,[]),(([122]:Bs),0,[])]:LF)).bind fun r2 =>
 (eU r1.1 (r1.2.map (Uun 0)) r2.1 (r2.2.map (Uun 0))).bind fun j3 =>
 (dm ([(([120]:Bs),0,[])]:LF)).bind fun r4 =>
 (dm ([(([120]:Bs),1,[])]:LF)).bind fun r5 =>
 (eb r4.1 (r4.2.map (Uun 0)) r5.1 (r5.2.map (Uun 0))).bind fun m6 =>
 (eJ 1).bind fun n7 =>
 (eJ 2).bind fun n8 =>
 (eJ 3).bind fun n9 =>
 (gy (([109]:Bs),[],[],[],[],false,[],[],[]) [] ([(([98]:Bs),1,[])]:LF) 11 0 ([]:Bs) ([]:Bs) [] ([(2,0,([98]:Bs),([]:Bs),[],[]),(13,0,([]:Bs),([]:Bs),([([120]:Bs),([121]:Bs)]:LB),(([(n7.1,n7.2.1,n7.2.2.1,n7.2.2.2.1,n7.2.2.2.2.1,((n7.2.2.2.2.2.map (Uun 1)).map (Umk 1))),(n8.1,n8.2.1,n8.2.2.1,n8.2.2.2.1,n8.2.2.2.2.1,((n8.2.2.2.2.2.map (Uun 1)).map (Umk 1)))]:LE).map (Umk 1))),(13,0,([]:Bs),([]:Bs),([([120]:Bs)]:LB),(([(n9.1,n9.2.1,n9.2.2.1,n9.2.2.2.1,n9.2.2.2.2.1,((n9.2.2.2.2.2.map (Uun 1)).map (Umk 1)))]:LE).map (Umk 1)))]:LE)).bind fun t10 =>
 (eJ 1).bind fun n11 =>
 (eF (([109]:Bs),[],[],[],([(([102]:Bs),false,[],(0,[]),0,16,2,([]:Bs),([]:Bs),[],(([(n11.1,n11.2.1,n11.2.2.1,n11.2.2.2.1,n11.2.2.2.2.1,((n11.2.2.2.2.2.map (Uun 1)).map (Umk 1)))]:LE).map (Umk 1)))]:LU),false,[],[],[]) []).bind fun c12 =>
 (dm ([(([120]:Bs),0,[]),(([121]:Bs),1,[])]:LF)).bind fun r13 =>
 (dm ([(([120]:Bs),0,[])]:LF)).bind fun r14 =>
 (gu r13.1 (r13.2.map (Uun 0)) r14.1 (r14.2.map (Uun 0))).bind fun s15 =>
 bif s15 then
 ((dm ([(([120]:Bs),0,[])]:LF)).bind fun r16 =>
 (dm ([(([120]:Bs),0,[]),(([121]:Bs),1,[])]:LF)).bind fun r17 =>
 (gu r16.1 (r16.2.map (Uun 0)) r17.1 (r17.2.map (Uun 0))).bind fun s18 =>
 bif (!s18) then
  (bif j3.2 then
  ((dm ([(([120]:Bs),0,[])]:LF)).bind fun r19 =>
  (cX j3.1.1 (j3.1.2.map (Uun 0)) r19.1 (r19.2.map (Uun 0))).bind fun s20 =>
  bif s20 then
   (bif (!m6.2) then
   ((dm ([(([120]:Bs),0,[])]:LF)).bind fun r21 =>
   (cX t10.1.1 (t10.1.2.map (Uun 0)) r21.1 (r21.2.map (Uun 0))).bind fun s22 =>
   bif s22 then
    (bif (eqZ t10.2.1 0) then
    (bif (eqZ t10.2.2 0) then
     (bif (decide (c12.1 = ([102]:Bs))) then
     some (eqZ c12.2 14)
     else
     some false)
    else
     some false)
    else
    some false)
   else
    some false)
   else
   some false)
  else
   some false)
  else
  some false)
 else
  some false)
 else
 some false
def aC.j1 (Gr:Gr8) (t2:LF) (most3:Int) (levels4:Int) (n7:Int) (i8:Int) (v9:Bool):Option ((Int × Int) ⊕ (Int)) :=
 bif v9 then
 ((idx t2 i8).bind fun v10 =>
 bif (ltZ 60 (v10.1.length:Int)) then
  ((z64 (most3 + 1)).bind fun v11 =>
  some (.inr v11))
 else
  ((idx t2 i8).bind fun v12 =>
  (z64 (most3 - n7)).bind fun v13 =>
  (z64 (levels4 - 1)).bind fun v14 =>
  (Gr v12.2.1 (v12.2.2.map (Uun 0)) v13 v14).bind fun n15 =>
  (z64 (n7 + n15)).bind fun v16 =>
  (z64 (i8 + 1)).bind fun v17 =>
  some (.inl (v16,v17))))
 else
 some (.inr n7)
def aC.b1 (Gr:Gr8) (t2:LF) (most3:Int) (levels4:Int) (n7:Int) (i8:Int):Option ((Int × Int) ⊕ (Int)) :=
 (bif (ltZ i8 (t2.length:Int)) then
 some (leZ n7 most3)
 else
 some false).bind fun x =>
 aC.j1 Gr t2 most3 levels4 n7 i8 x
def aC.j2 (Gr:Gr8) (t2:LF) (most3:Int) (levels4:Int) (v5:Bool):Option Int :=
 bif v5 then
 ((z64 (most3 + 1)).bind fun v6 =>
 some v6)
 else
 (bO (fun x=>aC.b1 Gr t2 most3 levels4 x.1 x.2) (1,0))
def aC.body (Gr:Gr8) (t1:Int) (t2:LF) (most3:Int) (levels4:Int):Option Int :=
 (bif (ltZ levels4 1) then
 some true
 else
 some (ltZ 12 (t2.length:Int))).bind fun x =>
 aC.j2 Gr t2 most3 levels4 x
def aC.rec:Nat → Int → LF → Int → Int → Option Int
 | 0=>fun _ _ _ _=>none
 | n + 1=>aC.body (aC.rec n)
def aC (t1:Int) (t2:LF) (most3:Int) (levels4:Int):Option Int:=aC.rec Fuel.n t1 t2 most3 levels4
def bL.b1 (l1:LT) (i2:Int):Option ((Int) ⊕ (Bool)) :=
 bif (ltZ i2 (l1.length:Int)) then
 ((idx l1 i2).bind fun v3 =>
 (aC v3.1 (v3.2.map (Uun 0)) 40 6).bind fun n4 =>
 bif (ltZ 40 n4) then
  some (.inr false)
 else
  ((z64 (i2 + 1)).bind fun v5 =>
  some (.inl v5)))
 else
 some (.inr true)
def bL (l1:LT):Option Bool :=
 bO (fun x=>bL.b1 l1 x) 0
def bp.j1 (i2:Int) (v7:Bool):Option ((Int) ⊕ (Bool)) :=
 bif v7 then
 some (.inr false)
 else
 ((z64 (i2 + 1)).bind fun v8 =>
 some (.inl v8))
def bp.j2 (l1:LF) (i2:Int) (v3:Bool):Option ((Int) ⊕ (Bool)) :=
 bif v3 then
 (((idx l1 i2).bind fun v4 =>
 bif (ltZ 60 (v4.1.length:Int)) then
  some true
 else
  ((idx l1 i2).bind fun v5 =>
  (bL ([(v5.2.1,((v5.2.2.map (Uun 0)).map (Umk 0)))]:LT)).bind fun l6 =>
  some (!l6))).bind fun x =>
 bp.j1 i2 x)
 else
 some (.inr (leZ (l1.length:Int) 8))
def bp.b1 (l1:LF) (i2:Int):Option ((Int) ⊕ (Bool)) :=
 (bif (ltZ i2 (l1.length:Int)) then
 some (ltZ i2 9)
 else
 some false).bind fun x =>
 bp.j2 l1 i2 x
def bp (l1:LF):Option Bool :=
 bO (fun x=>bp.b1 l1 x) 0
def aM.j1 (Gr:Gr9) (e6:LE) (most7:Int) (levels8:Int) (n11:Int) (i12:Int) (v13:Bool):Option ((Int × Int) ⊕ (Int)) :=
 bif v13 then
 ((idx e6 i12).bind fun v14 =>
 (z64 (most7 - n11)).bind fun v15 =>
 (z64 (levels8 - 1)).bind fun v16 =>
 (Gr v14.1 v14.2.1 v14.2.2.1 v14.2.2.2.1 v14.2.2.2.2.1 (v14.2.2.2.2.2.map (Uun 1)) v15 v16).bind fun s17 =>
 (z64 (n11 + s17)).bind fun v18 =>
 (z64 (i12 + 1)).bind fun v19 =>
 some (.inl (v18,v19)))
 else
 some (.inr n11)
def aM.b1 (Gr:Gr9) (e6:LE) (most7:Int) (levels8:Int) (n11:Int) (i12:Int):Option ((Int × Int) ⊕ (Int)) :=
 (bif (ltZ i12 (e6.length:Int)) then
 some (leZ n11 most7)
 else
 some false).bind fun x =>
 aM.j1 Gr e6 most7 levels8 n11 i12 x
def aM.j2 (Gr:Gr9) (e6:LE) (most7:Int) (levels8:Int) (v9:Bool):Option Int :=
 bif v9 then
 ((z64 (most7 + 1)).bind fun v10 =>
 some v10)
 else
 (bO (fun x=>aM.b1 Gr e6 most7 levels8 x.1 x.2) (1,0))
def aM.body (Gr:Gr9) (e1:Int) (e2:Int) (e3:Bs) (e4:Bs) (e5:LB) (e6:LE) (most7:Int) (levels8:Int):Option Int :=
 (bif (ltZ levels8 1) then
 some true
 else
 (bif (ltZ 12 (e5.length:Int)) then
  some true
 else
  (bif (ltZ 60 (e3.length:Int)) then
  some true
  else
  some (ltZ 60 (e4.length:Int))))).bind fun x =>
 aM.j2 Gr e6 most7 levels8 x
def aM.rec:Nat → Int → Int → Bs → Bs → LB → LE → Int → Int → Option Int
 | 0=>fun _ _ _ _ _ _ _ _=>none
 | n + 1=>aM.body (aM.rec n)
def aM (e1:Int) (e2:Int) (e3:Bs) (e4:Bs) (e5:LB) (e6:LE) (most7:Int) (levels8:Int):Option Int:=aM.rec Fuel.n e1 e2 e3 e4 e5 e6 most7 levels8
def bU.j1 (l1:LE) (i2:Int) (v3:Bool):Option ((Int) ⊕ (Bool)) :=
 bif v3 then
 ((idx l1 i2).bind fun v4 =>
 (aM v4.1 v4.2.1 v4.2.2.1 v4.2.2.2.1 v4.2.2.2.2.1 (v4.2.2.2.2.2.map (Uun 1)) 60 16).bind fun s5 =>
 bif (ltZ 60 s5) then
  some (.inr false)
 else
  ((z64 (i2 + 1)).bind fun v6 =>
  some (.inl v6)))
 else
 some (.inr (leZ (l1.length:Int) 8))
def bU.b1 (l1:LE) (i2:Int):Option ((Int) ⊕ (Bool)) :=
 (bif (ltZ i2 (l1.length:Int)) then
 some (ltZ i2 9)
 else
 some false).bind fun x =>
 bU.j1 l1 i2 x
def bU (l1:LE):Option Bool :=
 bO (fun x=>bU.b1 l1 x) 0
def bq.j1 (i10:Int) (v16:Bool):Option ((Int) ⊕ ((Unit) ⊕ (Bool))) :=
 bif v16 then
 some (.inr (.inr false))
 else
 ((z64 (i10 + 1)).bind fun v17 =>
 some (.inl v17))
def bq.j2 (m5:LU) (i10:Int) (v11:Bool):Option ((Int) ⊕ ((Unit) ⊕ (Bool))) :=
 bif v11 then
 ((idx m5 i10).bind fun v12 =>
 ((bp (v12.2.2.1.map (Uun 0))).bind fun f13 =>
 bif (!f13) then
  some true
 else
  ((bL ([(v12.2.2.2.1.1,((v12.2.2.2.1.2.map (Uun 0)).map (Umk 0)))]:LT)).bind fun l14 =>
  bif (!l14) then
  some true
  else
  ((bU ([(v12.2.2.2.2.2.1,v12.2.2.2.2.2.2.1,v12.2.2.2.2.2.2.2.1,v12.2.2.2.2.2.2.2.2.1,v12.2.2.2.2.2.2.2.2.2.1,((v12.2.2.2.2.2.2.2.2.2.2.map (Uun 1)).map (Umk 1)))]:LE)).bind fun e15 =>
  bif (!e15) then
   some true
  else
   some (ltZ 60 (v12.1.length:Int))))).bind fun x =>
 bq.j1 i10 x)
 else
 some (.inr (.inl ()))
def bq.b1 (m5:LU) (i10:Int):Option ((Int) ⊕ ((Unit) ⊕ (Bool))) :=
 (bif (ltZ i10 (m5.length:Int)) then
 some (ltZ i10 7)
 else
 some false).bind fun x =>
 bq.j2 m5 i10 x
def bq.j3 (m1:Bs) (m2:LB) (m3:LF) (m4:LE) (m5:LU) (m7:LF) (m8:LE) (m9:LE):Option Bool :=
 bif (leZ (m5.length:Int) 6) then
 (bif (leZ (m2.length:Int) 8) then
  ((bp m3).bind fun f18 =>
  bif f18 then
  ((bU m4).bind fun e19 =>
  bif e19 then
   ((bp m7).bind fun f20 =>
   bif f20 then
   ((bU m8).bind fun e21 =>
   bif e21 then
    ((bU m9).bind fun e22 =>
    bif e22 then
    some (leZ (m1.length:Int) 60)
    else
    some false)
   else
    some false)
   else
   some false)
  else
   some false)
  else
  some false)
 else
  some false)
 else
 some false
def bq (m1:Bs) (m2:LB) (m3:LF) (m4:LE) (m5:LU) (m6:Bool) (m7:LF) (m8:LE) (m9:LE):Option Bool :=
 (bO (fun x=>bq.b1 m5 x) 0).bind fun x=>match x with
 | .inl x =>
 bq.j3 m1 m2 m3 m4 m5 m7 m8 m9
 | .inr r=>some r
def aU.j1 (k4:Int) (v11:Bool):Option ((Int) ⊕ ((Unit) ⊕ ((Int) ⊕ (Bool)))) :=
 bif v11 then
 some (.inr (.inr (.inr false)))
 else
 ((z64 (k4 + 1)).bind fun v12 =>
 some (.inl v12))
def aU.j2 (l1:LA) (i2:Int) (k4:Int) (v6:Bool):Option ((Int) ⊕ ((Unit) ⊕ ((Int) ⊕ (Bool)))) :=
 bif v6 then
 ((idx l1 i2).bind fun v7 =>
 (idx v7.2 k4).bind fun v8 =>
 (bif (ltZ 8 (v8.2.1.length:Int)) then
  some true
 else
  ((bL v8.2.1).bind fun l9 =>
  bif (!l9) then
  some true
  else
  ((bL ([(v8.2.2.1.1,((v8.2.2.1.2.map (Uun 0)).map (Umk 0)))]:LT)).bind fun l10 =>
  some (!l10)))).bind fun x =>
 aU.j1 k4 x)
 else
 some (.inr (.inl ()))
def aU.b1 (l1:LA) (i2:Int) (k4:Int):Option ((Int) ⊕ ((Unit) ⊕ ((Int) ⊕ (Bool)))) :=
 ((idx l1 i2).bind fun v5 =>
 bif (ltZ k4 (v5.2.length:Int)) then
 some (ltZ k4 7)
 else
 some false).bind fun x =>
 aU.j2 l1 i2 k4 x
def aU.j3 (l1:LA) (i2:Int):Option ((Int) ⊕ (Bool)) :=
 (idx l1 i2).bind fun v13 =>
 bif (ltZ 6 (v13.2.length:Int)) then
 some (.inr false)
 else
 ((z64 (i2 + 1)).bind fun v14 =>
 some (.inl v14))
def aU.j4 (l1:LA) (i2:Int) (v3:Bool):Option ((Int) ⊕ (Bool)) :=
 bif v3 then
 ((bO (fun x=>aU.b1 l1 i2 x) 0).bind fun x=>match x with
 | .inl x =>
  aU.j3 l1 i2
 | .inr r=>some r)
 else
 some (.inr (leZ (l1.length:Int) 4))
def aU.b2 (l1:LA) (i2:Int):Option ((Int) ⊕ (Bool)) :=
 (bif (ltZ i2 (l1.length:Int)) then
 some (ltZ i2 5)
 else
 some false).bind fun x =>
 aU.j4 l1 i2 x
def aU (l1:LA):Option Bool :=
 bO (fun x=>aU.b2 l1 x) 0
def cO (n1:Int) (from2:Int) (to3:Int):Option Bool :=
 bif (leZ from2 n1) then
 some (leZ n1 to3)
 else
 some false
def cx.b1 (l1:LF) (i2:Int) (out3:LB):Option ((Int × LB) ⊕ (LB)) :=
 bif (ltZ i2 (l1.length:Int)) then
 ((idx l1 i2).bind fun v4 =>
 (app? out3 ([v4.1]:LB)).bind fun l5 =>
 (z64 (i2 + 1)).bind fun v6 =>
 some (.inl (v6,l5)))
 else
 some (.inr out3)
def cx (l1:LF):Option (LB) :=
 bO (fun x=>cx.b1 l1 x.1 x.2) (0,[])
def eh (c1:Int):Option Bool :=
 bif (leZ 97 c1) then
 some (leZ c1 122)
 else
 some false
def eW (c1:Int):Option Bool :=
 bif (leZ 48 c1) then
 some (leZ c1 57)
 else
 some false
def bV.j1 (i5:Int) (v10:Bool):Option ((Int) ⊕ (Bool)) :=
 bif v10 then
 some (.inr false)
 else
 ((z64 (i5 + 1)).bind fun v11 =>
 some (.inl v11))
def bV.b1 (s1:Bs) (i5:Int):Option ((Int) ⊕ (Bool)) :=
 bif (ltZ i5 (s1.length:Int)) then
 (((bAt s1 i5).bind fun c6 =>
 (eh c6).bind fun l7 =>
 bif (!l7) then
  ((bAt s1 i5).bind fun c8 =>
  (eW c8).bind fun d9 =>
  some (!d9))
 else
  some false).bind fun x =>
 bV.j1 i5 x)
 else
 some (.inr true)
def bV.j2 (s1:Bs) (v4:Bool):Option Bool :=
 bif v4 then
 some false
 else
 (bO (fun x=>bV.b1 s1 x) 1)
def bV (s1:Bs):Option Bool :=
 (bif (ltZ (s1.length:Int) 1) then
 some true
 else
 (bif (ltZ 20 (s1.length:Int)) then
  some true
 else
  ((bAt s1 0).bind fun c2 =>
  (eh c2).bind fun l3 =>
  some (!l3)))).bind fun x =>
 bV.j2 s1 x
def ek:Option (LB) :=
 some ([([97,110,100]:Bs),([98,97,99,107]:Bs),([98,111,111,108]:Bs),([99,108,111,99,107]:Bs),([101,108,115,101]:Bs),([102,97,108,115,101]:Bs),([102,105,108,101,115]:Bs),([102,110]:Bs),([102,111,114,119,97,114,100]:Bs),([103,101,116]:Bs),([105,102]:Bs),([105,110]:Bs),([105,110,116]:Bs),([108,101,116]:Bs),([109,111,100,117,108,101]:Bs),([109,111,118,101]:Bs),([110,101,116]:Bs),([110,111,116]:Bs),([111,114]:Bs),([112,117,98]:Bs),([115,101,99,114,101,116,115]:Bs),([115,101,116]:Bs),([116,104,101,110]:Bs),([116,114,117,101]:Bs),([117,115,101]:Bs),([118,97,114]:Bs)]:LB)
def dd.b1 (l1:LB) (s2:Bs) (i3:Int):Option ((Int) ⊕ (Int)) :=
 bif (ltZ i3 (l1.length:Int)) then
 ((idx l1 i3).bind fun v4 =>
 bif (decide (v4 = s2)) then
  some (.inr i3)
 else
  ((z64 (i3 + 1)).bind fun v5 =>
  some (.inl v5)))
 else
 some (.inr (-1))
def dd (l1:LB) (s2:Bs):Option Int :=
 bO (fun x=>dd.b1 l1 s2 x) 0
def cq (s1:Bs):Option Bool :=
 (bV s1).bind fun w2 =>
 bif w2 then
 ((ek).bind fun r3 =>
 (dd r3 s1).bind fun f4 =>
 some (ltZ f4 0))
 else
 some false
def bo.j1 (i2:Int) (v8:Bool):Option ((Int) ⊕ (Bool)) :=
 bif v8 then
 some (.inr false)
 else
 ((z64 (i2 + 1)).bind fun v9 =>
 some (.inl v9))
def bo.b1 (l1:LB) (i2:Int):Option ((Int) ⊕ (Bool)) :=
 bif (ltZ i2 (l1.length:Int)) then
 (((idx l1 i2).bind fun v3 =>
 (cq v3).bind fun n4 =>
 bif (!n4) then
  some true
 else
  (bif (ltZ 0 i2) then
  ((z64 (i2 - 1)).bind fun v5 =>
  (idx l1 v5).bind fun v6 =>
  (idx l1 i2).bind fun v7 =>
  some (!Op.bytesLess v6 v7))
  else
  some false)).bind fun x =>
 bo.j1 i2 x)
 else
 some (.inr true)
def bo (l1:LB):Option Bool :=
 bO (fun x=>bo.b1 l1 x) 0
def aS.b1 (Gr:Gr4) (t2:LF) (levels3:Int) (i10:Int):Option ((Int) ⊕ (Bool)) :=
 bif (ltZ i10 (t2.length:Int)) then
 ((idx t2 i10).bind fun v11 =>
 (z64 (levels3 - 1)).bind fun v12 =>
 (Gr v11.2.1 (v11.2.2.map (Uun 0)) v12).bind fun s13 =>
 bif (!s13) then
  some (.inr false)
 else
  ((z64 (i10 + 1)).bind fun v14 =>
  some (.inl v14)))
 else
 some (.inr true)
def aS.j1 (Gr:Gr4) (t2:LF) (levels3:Int) (v9:Bool):Option Bool :=
 bif v9 then
 some false
 else
 (bO (fun x=>aS.b1 Gr t2 levels3 x) 0)
def aS.body (Gr:Gr4) (t1:Int) (t2:LF) (levels3:Int):Option Bool :=
 (bif (eqZ levels3 0) then
 some true
 else
 ((cO t1 0 2).bind fun w4 =>
 bif (!w4) then
  some true
 else
  (bif (!eqZ t1 2) then
  (bif (ltZ 0 (t2.length:Int)) then
   some true
  else
   (bif (ltZ 8 (t2.length:Int)) then
   some true
   else
   ((cx t2).bind fun l5 =>
   (bo l5).bind fun a6 =>
   some (!a6))))
  else
  (bif (ltZ 8 (t2.length:Int)) then
   some true
  else
   ((cx t2).bind fun l7 =>
   (bo l7).bind fun a8 =>
   some (!a8)))))).bind fun x =>
 aS.j1 Gr t2 levels3 x
def aS.rec:Nat → Int → LF → Int → Option Bool
 | 0=>fun _ _ _=>none
 | n + 1=>aS.body (aS.rec n)
def aS (t1:Int) (t2:LF) (levels3:Int):Option Bool:=aS.rec Fuel.n t1 t2 levels3
def cI (t1:Int) (t2:LF):Option Bool :=
 (aS t1 t2 4).bind fun s3 =>
 some s3
def aN (t1:Int) (t2:LF):Option Bool :=
 (cI t1 t2).bind fun r3 =>
 some r3
def aA.j1 (Gr:Gr2) (a2:LF) (b4:LF) (i5:Int) (k6:Int) (out7:Int) (v8:LF) (v18:Bool):Option ((Int × Int × Int × LF) ⊕ (aK × Bool)) :=
 bif v18 then
 ((idx b4 k6).bind fun v19 =>
 (app? v8 ([(v19.1,v19.2.1,((v19.2.2.map (Uun 0)).map (Umk 0)))]:LF)).bind fun l20 =>
 (z64 (k6 + 1)).bind fun v21 =>
 some (.inl (i5,v21,out7,l20)))
 else
 ((idx a2 i5).bind fun v22 =>
 (idx b4 k6).bind fun v23 =>
 (Gr v22.2.1 (v22.2.2.map (Uun 0)) v23.2.1 (v23.2.2.map (Uun 0))).bind fun m24 =>
 bif (!m24.2) then
  some (.inr ((0,[]),false))
 else
  ((idx a2 i5).bind fun v25 =>
  (app? v8 ([(v25.1,m24.1.1,((m24.1.2.map (Uun 0)).map (Umk 0)))]:LF)).bind fun l26 =>
  (z64 (i5 + 1)).bind fun v27 =>
  (z64 (k6 + 1)).bind fun v28 =>
  some (.inl (v27,v28,out7,l26))))
def aA.j2 (Gr:Gr2) (a2:LF) (b4:LF) (i5:Int) (k6:Int) (out7:Int) (v8:LF) (v12:Bool):Option ((Int × Int × Int × LF) ⊕ (aK × Bool)) :=
 bif v12 then
 ((idx a2 i5).bind fun v13 =>
 (app? v8 ([(v13.1,v13.2.1,((v13.2.2.map (Uun 0)).map (Umk 0)))]:LF)).bind fun l14 =>
 (z64 (i5 + 1)).bind fun v15 =>
 some (.inl (v15,k6,out7,l14)))
 else
 ((bif (leZ (a2.length:Int) i5) then
  some true
 else
  ((idx b4 k6).bind fun v16 =>
  (idx a2 i5).bind fun v17 =>
  some (Op.bytesLess v16.1 v17.1))).bind fun x =>
 aA.j1 Gr a2 b4 i5 k6 out7 v8 x)
def aA.j3 (Gr:Gr2) (a2:LF) (b4:LF) (i5:Int) (k6:Int) (out7:Int) (v8:LF) (v9:Bool):Option ((Int × Int × Int × LF) ⊕ (aK × Bool)) :=
 bif v9 then
 ((bif (leZ (b4.length:Int) k6) then
  some true
 else
  (bif (ltZ i5 (a2.length:Int)) then
  ((idx a2 i5).bind fun v10 =>
  (idx b4 k6).bind fun v11 =>
  some (Op.bytesLess v10.1 v11.1))
  else
  some false)).bind fun x =>
 aA.j2 Gr a2 b4 i5 k6 out7 v8 x)
 else
 some (.inr ((out7,(v8.map (Umk 0))),true))
def aA.b1 (Gr:Gr2) (a2:LF) (b4:LF) (i5:Int) (k6:Int) (out7:Int) (v8:LF):Option ((Int × Int × Int × LF) ⊕ (aK × Bool)) :=
 (bif (ltZ i5 (a2.length:Int)) then
 some true
 else
 some (ltZ k6 (b4.length:Int))).bind fun x =>
 aA.j3 Gr a2 b4 i5 k6 out7 v8 x
def aA.body (Gr:Gr2) (a1:Int) (a2:LF) (b3:Int) (b4:LF):Option (aK × Bool) :=
 bif (!eqZ a1 b3) then
 some ((0,[]),false)
 else
 (bO (fun x=>aA.b1 Gr a2 b4 x.1 x.2.1 x.2.2.1 x.2.2.2) (0,0,a1,[]))
def aA.rec:Nat → Int → LF → Int → LF → Option (aK × Bool)
 | 0=>fun _ _ _ _=>none
 | n + 1=>aA.body (aA.rec n)
def aA (a1:Int) (a2:LF) (b3:Int) (b4:LF):Option (aK × Bool):=aA.rec Fuel.n a1 a2 b3 b4
def dj.j1 (m8:aK × Bool) (v10:Bool):Option (aK × Bool) :=
 bif v10 then
 some ((0,[]),false)
 else
 some ((m8.1.1,((m8.1.2.map (Uun 0)).map (Umk 0))),true)
def dj.j2 (a1:Int) (a2:LF) (b3:Int) (b4:LF) (v7:Bool):Option (aK × Bool) :=
 bif v7 then
 some ((0,[]),false)
 else
 ((aA a1 a2 b3 b4).bind fun m8 =>
 (bif (!m8.2) then
  some true
 else
  ((aN m8.1.1 (m8.1.2.map (Uun 0))).bind fun r9 =>
  some (!r9))).bind fun x =>
 dj.j1 m8 x)
def dj (a1:Int) (a2:LF) (b3:Int) (b4:LF):Option (aK × Bool) :=
 ((aN a1 a2).bind fun r5 =>
 bif (!r5) then
 some true
 else
 ((aN b3 b4).bind fun r6 =>
 some (!r6))).bind fun x =>
 dj.j2 a1 a2 b3 b4 x
def bD.b1 (l1:LF) (name2:Bs) (i4:Int):Option ((Int) ⊕ (aK × Bool)) :=
 bif (leZ 0 i4) then
 ((idx l1 i4).bind fun v5 =>
 bif (decide (v5.1 = name2)) then
  ((idx l1 i4).bind fun v6 =>
  some (.inr ((v6.2.1,((v6.2.2.map (Uun 0)).map (Umk 0))),true)))
 else
  ((z64 (i4 - 1)).bind fun v7 =>
  some (.inl v7)))
 else
 some (.inr ((0,[]),false))
def bD (l1:LF) (name2:Bs):Option (aK × Bool) :=
 (z64 ((l1.length:Int) - 1)).bind fun v3 =>
 bO (fun x=>bD.b1 l1 name2 x) v3
def aZ.b1 (Gr:Gr2) (a2:LF) (b4:LF) (i5:Int) (out6:Int) (v7:LF):Option ((Int × Int × LF) ⊕ (aK × Bool)) :=
 bif (ltZ i5 (a2.length:Int)) then
 ((idx a2 i5).bind fun v8 =>
 (bD b4 v8.1).bind fun f9 =>
 bif (!f9.2) then
  ((z64 (i5 + 1)).bind fun v10 =>
  some (.inl (v10,out6,v7)))
 else
  ((idx a2 i5).bind fun v11 =>
  (Gr v11.2.1 (v11.2.2.map (Uun 0)) f9.1.1 (f9.1.2.map (Uun 0))).bind fun j12 =>
  bif j12.2 then
  ((idx a2 i5).bind fun v13 =>
  (app? v7 ([(v13.1,j12.1.1,((j12.1.2.map (Uun 0)).map (Umk 0)))]:LF)).bind fun l14 =>
  (z64 (i5 + 1)).bind fun v15 =>
  some (.inl (v15,out6,l14)))
  else
  ((z64 (i5 + 1)).bind fun v16 =>
  some (.inl (v16,out6,v7)))))
 else
 some (.inr ((out6,(v7.map (Umk 0))),true))
def aZ.body (Gr:Gr2) (a1:Int) (a2:LF) (b3:Int) (b4:LF):Option (aK × Bool) :=
 bif (!eqZ a1 b3) then
 some ((0,[]),false)
 else
 (bO (fun x=>aZ.b1 Gr a2 b4 x.1 x.2.1 x.2.2) (0,a1,[]))
def aZ.rec:Nat → Int → LF → Int → LF → Option (aK × Bool)
 | 0=>fun _ _ _ _=>none
 | n + 1=>aZ.body (aZ.rec n)
def aZ (a1:Int) (a2:LF) (b3:Int) (b4:LF):Option (aK × Bool):=aZ.rec Fuel.n a1 a2 b3 b4
def dK.j1 (a1:Int) (a2:LF) (b3:Int) (b4:LF) (v7:Bool):Option (aK × Bool) :=
 bif v7 then
 some ((0,[]),false)
 else
 ((aZ a1 a2 b3 b4).bind fun j8 =>
 some ((j8.1.1,((j8.1.2.map (Uun 0)).map (Umk 0))),j8.2))
def dK (a1:Int) (a2:LF) (b3:Int) (b4:LF):Option (aK × Bool) :=
 ((aN a1 a2).bind fun r5 =>
 bif (!r5) then
 some true
 else
 ((aN b3 b4).bind fun r6 =>
 some (!r6))).bind fun x =>
 dK.j1 a1 a2 b3 b4 x
def ft (Gr:Gr1) (a1:Bs) (a2:Int) (a3:LF) (b4:Bs) (b5:Int) (b6:LF):Option Bool :=
 bif (decide (a1 = b4)) then
 ((Gr a2 a3 b5 b6).bind fun s7 =>
 some s7)
 else
 some false
def ar.b1 (Gr:Gr1) (s1'1:LF) (s2'2:LF) (v3:Int):Option ((Int) ⊕ (Bool)) :=
 bif (ltZ v3 (s1'1.length:Int)) then
 ((idx s1'1 v3).bind fun v4 =>
 (idx s2'2 v3).bind fun v5 =>
 (ft Gr v4.1 v4.2.1 (v4.2.2.map (Uun 0)) v5.1 v5.2.1 (v5.2.2.map (Uun 0))).bind fun s6 =>
 bif (!s6) then
  some (.inr false)
 else
  ((z64 (v3 + 1)).bind fun v7 =>
  some (.inl v7)))
 else
 some (.inr true)
def ar (Gr:Gr1) (s1'1:LF) (s2'2:LF):Option Bool :=
 bif (!eqZ (s1'1.length:Int) (s2'2.length:Int)) then
 some false
 else
 (bO (fun x=>ar.b1 Gr s1'1 s2'2 x) 0)
def bS.body (Gr:Gr1) (a1:Int) (a2:LF) (b3:Int) (b4:LF):Option Bool :=
 bif (eqZ a1 b3) then
 ((ar Gr a2 b4).bind fun f5 =>
 some f5)
 else
 some false
def bS.rec:Nat → Int → LF → Int → LF → Option Bool
 | 0=>fun _ _ _ _=>none
 | n + 1=>bS.body (bS.rec n)
def bS (a1:Int) (a2:LF) (b3:Int) (b4:LF):Option Bool:=bS.rec Fuel.n a1 a2 b3 b4
def iG (a1:Int) (a2:LF) (b3:Int) (b4:LF):Option Bool :=
 (bI a1 a2).bind fun r5 =>
 bif r5 then
 ((bI b3 b4).bind fun r6 =>
 bif r6 then
  ((bS a1 a2 b3 b4).bind fun s7 =>
  some s7)
 else
  some false)
 else
 some false
def aV.j1 (i6:Int) (v12:Bool):Option ((Int) ⊕ (Bool)) :=
 bif v12 then
 some (.inr false)
 else
 ((z64 (i6 + 1)).bind fun v13 =>
 some (.inl v13))
def aV.b1 (Gr:Gr1) (a2:LF) (b4:LF) (i6:Int):Option ((Int) ⊕ (Bool)) :=
 bif (ltZ i6 (a2.length:Int)) then
 ((idx a2 i6).bind fun v7 =>
 (idx b4 i6).bind fun v8 =>
 (Gr v7.2.1 (v7.2.2.map (Uun 0)) v8.2.1 (v8.2.2.map (Uun 0))).bind fun s9 =>
 ((idx a2 i6).bind fun v10 =>
 (idx b4 i6).bind fun v11 =>
 bif (!decide (v10.1 = v11.1)) then
  some true
 else
  some (!s9)).bind fun x =>
 aV.j1 i6 x)
 else
 some (.inr true)
def aV.j2 (Gr:Gr1) (a2:LF) (b4:LF) (v5:Bool):Option Bool :=
 bif v5 then
 some false
 else
 (bO (fun x=>aV.b1 Gr a2 b4 x) 0)
def aV.body (Gr:Gr1) (a1:Int) (a2:LF) (b3:Int) (b4:LF):Option Bool :=
 (bif (!eqZ a1 b3) then
 some true
 else
 some (!eqZ (a2.length:Int) (b4.length:Int))).bind fun x =>
 aV.j2 Gr a2 b4 x
def aV.rec:Nat → Int → LF → Int → LF → Option Bool
 | 0=>fun _ _ _ _=>none
 | n + 1=>aV.body (aV.rec n)
def aV (a1:Int) (a2:LF) (b3:Int) (b4:LF):Option Bool:=aV.rec Fuel.n a1 a2 b3 b4
def eR (a1:Int) (a2:LF) (b3:Int) (b4:LF):Option Bool :=
 (aN a1 a2).bind fun r5 =>
 bif r5 then
 ((aN b3 b4).bind fun r6 =>
 bif r6 then
  ((aV a1 a2 b3 b4).bind fun s7 =>
  some s7)
 else
  some false)
 else
 some false
def aF.b1 (Gr:Gr1) (a2:LF) (b4:LF) (i5:Int):Option ((Int) ⊕ (Bool)) :=
 bif (ltZ i5 (b4.length:Int)) then
 ((idx b4 i5).bind fun v6 =>
 (bD a2 v6.1).bind fun f7 =>
 bif (!f7.2) then
  some (.inr false)
 else
  ((idx b4 i5).bind fun v8 =>
  (Gr f7.1.1 (f7.1.2.map (Uun 0)) v8.2.1 (v8.2.2.map (Uun 0))).bind fun s9 =>
  bif (!s9) then
  some (.inr false)
  else
  ((z64 (i5 + 1)).bind fun v10 =>
  some (.inl v10))))
 else
 some (.inr true)
def aF.body (Gr:Gr1) (a1:Int) (a2:LF) (b3:Int) (b4:LF):Option Bool :=
 bif (!eqZ a1 b3) then
 some false
 else
 (bO (fun x=>aF.b1 Gr a2 b4 x) 0)
def aF.rec:Nat → Int → LF → Int → LF → Option Bool
 | 0=>fun _ _ _ _=>none
 | n + 1=>aF.body (aF.rec n)
def aF (a1:Int) (a2:LF) (b3:Int) (b4:LF):Option Bool:=aF.rec Fuel.n a1 a2 b3 b4
def fg (a1:Int) (a2:LF) (b3:Int) (b4:LF):Option Bool :=
 (aN a1 a2).bind fun r5 =>
 bif r5 then
 ((aN b3 b4).bind fun r6 =>
 bif r6 then
  ((aF a1 a2 b3 b4).bind fun s7 =>
  some s7)
 else
  some false)
 else
 some false
def dA.j1 (m1:Bs) (m2:LB) (m3:LF) (m4:LE) (m5:LU) (m6:Bool) (m7:LF) (m8:LE) (m9:LE) (faces10:LA) (locals11:LF) (e12:Int) (e13:Int) (e14:Bs) (e15:Bs) (e16:LB) (e17:LE) (v21:Bool):Option (aK × Int × Int) :=
 bif v21 then
 some ((0,[]),0,1)
 else
 (orT (
  (bj m1 m2 m3 m4 m5 m6 m7 m8 m9 faces10).bind fun n22 =>
  (aw locals11 e12 e13 e14 e15 e16 e17 n22.1 n22.2.1 n22.2.2.1 n22.2.2.2.1 n22.2.2.2.2.1 n22.2.2.2.2.2.1 n22.2.2.2.2.2.2.1 n22.2.2.2.2.2.2.2.1 n22.2.2.2.2.2.2.2.2.1 n22.2.2.2.2.2.2.2.2.2.1 n22.2.2.2.2.2.2.2.2.2.2).bind fun f23 =>
  bif (!eqZ f23.2.1 0) then
  some ((0,[]),0,f23.2.1)
  else
  ((aX f23.1.1 (f23.1.2.map (Uun 0))).bind fun v24 =>
  some ((v24.1,((v24.2.map (Uun 0)).map (Umk 0))),f23.2.2.2.2.2.2.2.2.2.2.2.1,0))) (
  (aE m1 m2 m3 m4 m5 m6 m7 m8 m9 faces10).bind fun v25 =>
  some ((0,[]),0,1)))
def dA (m1:Bs) (m2:LB) (m3:LF) (m4:LE) (m5:LU) (m6:Bool) (m7:LF) (m8:LE) (m9:LE) (faces10:LA) (locals11:LF) (e12:Int) (e13:Int) (e14:Bs) (e15:Bs) (e16:LB) (e17:LE):Option (aK × Int × Int) :=
 (aO locals11).bind fun f18 =>
 (bif f18 then
 some true
 else
 ((cn e12 e13 e14 e15 e16 e17).bind fun r19 =>
 bif (!r19) then
  some true
 else
  ((au m1 m2 m3 m4 m5 m6 m7 m8 m9).bind fun r20 =>
  some (!r20)))).bind fun x =>
 dA.j1 m1 m2 m3 m4 m5 m6 m7 m8 m9 faces10 locals11 e12 e13 e14 e15 e16 e17 x
def cJ (e1:Int) (e2:Int) (e3:Bs) (e4:Bs) (e5:LB) (e6:LE) (n7:Bool) (s8:Bool) (m9:Bool) (names10:Bool):Option Bool :=
 bif n7 then
 (bif s8 then
  (bif m9 then
  (bif names10 then
   some true
  else
   some (eqZ (e5.length:Int) 0))
  else
  (bif (decide (e4 = ([]:Bs))) then
   (bif names10 then
   some true
   else
   some (eqZ (e5.length:Int) 0))
  else
   some false))
 else
  (bif (decide (e3 = ([]:Bs))) then
  (bif m9 then
   (bif names10 then
   some true
   else
   some (eqZ (e5.length:Int) 0))
  else
   (bif (decide (e4 = ([]:Bs))) then
   (bif names10 then
    some true
   else
    some (eqZ (e5.length:Int) 0))
   else
   some false))
  else
  some false))
 else
 (bif (eqZ e2 0) then
  (bif s8 then
  (bif m9 then
   (bif names10 then
   some true
   else
   some (eqZ (e5.length:Int) 0))
  else
   (bif (decide (e4 = ([]:Bs))) then
   (bif names10 then
    some true
   else
    some (eqZ (e5.length:Int) 0))
   else
   some false))
  else
  (bif (decide (e3 = ([]:Bs))) then
   (bif m9 then
   (bif names10 then
    some true
   else
    some (eqZ (e5.length:Int) 0))
   else
   (bif (decide (e4 = ([]:Bs))) then
    (bif names10 then
    some true
    else
    some (eqZ (e5.length:Int) 0))
   else
    some false))
  else
   some false))
 else
  some false)
def bJ.j1 (e1:Int) (e2:Int) (e3:Bs) (e4:Bs) (e5:LB) (e6:LE) (v27:Bool):Option Bool :=
 bif v27 then
 ((cJ e1 e2 e3 e4 e5 e6 false false false false).bind fun p28 =>
 bif p28 then
  some (eqZ (e6.length:Int) 2)
 else
  some false)
 else
 some false
def bJ.j2 (e1:Int) (e2:Int) (e3:Bs) (e4:Bs) (e5:LB) (e6:LE) (v14:Bool):Option Bool :=
 bif v14 then
 ((cJ e1 e2 e3 e4 e5 e6 false true false false).bind fun p15 =>
 bif p15 then
  (bif (eqZ (e6.length:Int) 1) then
  ((cq e3).bind fun n16 =>
  some n16)
  else
  some false)
 else
  some false)
 else
 (bif (eqZ e1 12) then
  ((cJ e1 e2 e3 e4 e5 e6 false true false false).bind fun p17 =>
  bif p17 then
  (bif (eqZ (e6.length:Int) 2) then
   ((cq e3).bind fun n18 =>
   some n18)
  else
   some false)
  else
  some false)
 else
  (bif (eqZ e1 10) then
  ((cJ e1 e2 e3 e4 e5 e6 false false false false).bind fun p19 =>
  bif p19 then
   some (eqZ (e6.length:Int) 1)
  else
   some false)
  else
  (bif (eqZ e1 11) then
   ((cJ e1 e2 e3 e4 e5 e6 false false false false).bind fun p20 =>
   bif p20 then
   some (eqZ (e6.length:Int) 3)
   else
   some false)
  else
   (bif (eqZ e1 13) then
   ((cJ e1 e2 e3 e4 e5 e6 false false false true).bind fun p21 =>
   bif p21 then
    (bif (eqZ (e6.length:Int) (e5.length:Int)) then
    (bif (leZ (e6.length:Int) 8) then
     ((bo e5).bind fun a22 =>
     some a22)
    else
     some false)
    else
    some false)
   else
    some false)
   else
   (bif (eqZ e1 15) then
    ((cJ e1 e2 e3 e4 e5 e6 false true true false).bind fun p23 =>
    bif p23 then
    (bif (leZ (e6.length:Int) 6) then
     ((cq e3).bind fun n24 =>
     bif n24 then
     (bif (decide (e4 = ([]:Bs))) then
      some true
     else
      ((cq e4).bind fun n25 =>
      some n25))
     else
     some false)
    else
     some false)
    else
    some false)
   else
    (bif (eqZ e1 16) then
    ((cJ e1 e2 e3 e4 e5 e6 true false false false).bind fun p26 =>
    bif p26 then
     (bif (eqZ (e6.length:Int) 1) then
     (bif (eqZ e2 1) then
      some true
     else
      (bif (eqZ e2 2) then
      some true
      else
      (bif (eqZ e2 4) then
       some true
      else
       some (eqZ e2 8))))
     else
     some false)
    else
     some false)
    else
    ((bif (eqZ e1 3) then
     some (eqZ e1 3)
    else
     (bif (eqZ e1 4) then
     some (eqZ e1 4)
     else
     (bif (eqZ e1 5) then
      some (eqZ e1 5)
     else
      (bif (eqZ e1 6) then
      some (eqZ e1 6)
      else
      (bif (eqZ e1 7) then
       some (eqZ e1 7)
      else
       (bif (eqZ e1 8) then
       some (eqZ e1 8)
       else
       some (eqZ e1 9))))))).bind fun x =>
    bJ.j1 e1 e2 e3 e4 e5 e6 x)))))))
def bJ.j3 (e1:Int) (e2:Int) (e3:Bs) (e4:Bs) (e5:LB) (e6:LE) (v11:Bool):Option Bool :=
 bif v11 then
 ((cJ e1 e2 e3 e4 e5 e6 false true false false).bind fun p12 =>
 bif p12 then
  (bif (eqZ (e6.length:Int) 0) then
  ((cq e3).bind fun n13 =>
  some n13)
  else
  some false)
 else
  some false)
 else
 ((bif (eqZ e1 14) then
  some (eqZ e1 14)
 else
  some (eqZ e1 18)).bind fun x =>
 bJ.j2 e1 e2 e3 e4 e5 e6 x)
def bJ (e1:Int) (e2:Int) (e3:Bs) (e4:Bs) (e5:LB) (e6:LE):Option Bool :=
 bif (eqZ e1 0) then
 ((cJ e1 e2 e3 e4 e5 e6 true false false false).bind fun p7 =>
 bif p7 then
  (bif (eqZ (e6.length:Int) 0) then
  ((cO e2 0 1099511627776).bind fun w8 =>
  some w8)
  else
  some false)
 else
  some false)
 else
 (bif (eqZ e1 1) then
  ((cJ e1 e2 e3 e4 e5 e6 true false false false).bind fun p9 =>
  bif p9 then
  (bif (eqZ (e6.length:Int) 0) then
   ((cO e2 0 1).bind fun w10 =>
   some w10)
  else
   some false)
  else
  some false)
 else
  ((bif (eqZ e1 2) then
  some (eqZ e1 2)
  else
  some (eqZ e1 17)).bind fun x =>
  bJ.j3 e1 e2 e3 e4 e5 e6 x))
def ba.b1 (Gr:Gr3) (e6:LE) (levels7:Int) (i10:Int):Option ((Int) ⊕ (Bool)) :=
 bif (ltZ i10 (e6.length:Int)) then
 ((idx e6 i10).bind fun v11 =>
 (z64 (levels7 - 1)).bind fun v12 =>
 (Gr v11.1 v11.2.1 v11.2.2.1 v11.2.2.2.1 v11.2.2.2.2.1 (v11.2.2.2.2.2.map (Uun 1)) v12).bind fun f13 =>
 bif (!f13) then
  some (.inr false)
 else
  ((z64 (i10 + 1)).bind fun v14 =>
  some (.inl v14)))
 else
 some (.inr true)
def ba.j1 (Gr:Gr3) (e6:LE) (levels7:Int) (v9:Bool):Option Bool :=
 bif v9 then
 some false
 else
 (bO (fun x=>ba.b1 Gr e6 levels7 x) 0)
def ba.body (Gr:Gr3) (e1:Int) (e2:Int) (e3:Bs) (e4:Bs) (e5:LB) (e6:LE) (levels7:Int):Option Bool :=
 (bif (eqZ levels7 0) then
 some true
 else
 ((bJ e1 e2 e3 e4 e5 e6).bind fun f8 =>
 some (!f8))).bind fun x =>
 ba.j1 Gr e6 levels7 x
def ba.rec:Nat → Int → Int → Bs → Bs → LB → LE → Int → Option Bool
 | 0=>fun _ _ _ _ _ _ _=>none
 | n + 1=>ba.body (ba.rec n)
def ba (e1:Int) (e2:Int) (e3:Bs) (e4:Bs) (e5:LB) (e6:LE) (levels7:Int):Option Bool:=ba.rec Fuel.n e1 e2 e3 e4 e5 e6 levels7
def cu (e1:Int) (e2:Int) (e3:Bs) (e4:Bs) (e5:LB) (e6:LE):Option Bool :=
 (ba e1 e2 e3 e4 e5 e6 12).bind fun f7 =>
 some f7
def bW.j1 (i2:Int) (v8:Bool):Option ((Int) ⊕ (Bool)) :=
 bif v8 then
 some (.inr false)
 else
 ((z64 (i2 + 1)).bind fun v9 =>
 some (.inl v9))
def bW.b1 (l1:LB) (i2:Int):Option ((Int) ⊕ (Bool)) :=
 bif (ltZ i2 (l1.length:Int)) then
 (((idx l1 i2).bind fun v3 =>
 (cq v3).bind fun n4 =>
 bif (!n4) then
  some true
 else
  ((cut l1 0 i2).bind fun l5 =>
  (idx l1 i2).bind fun v6 =>
  (dd l5 v6).bind fun f7 =>
  some (leZ 0 f7))).bind fun x =>
 bW.j1 i2 x)
 else
 some (.inr true)
def bW (l1:LB):Option Bool :=
 bO (fun x=>bW.b1 l1 x) 0
def bB.b1 (l1:LF) (i3:Int):Option ((Int) ⊕ ((Unit) ⊕ (Bool))) :=
 bif (ltZ i3 (l1.length:Int)) then
 ((idx l1 i3).bind fun v4 =>
 (cI v4.2.1 (v4.2.2.map (Uun 0))).bind fun r5 =>
 bif (!r5) then
  some (.inr (.inr false))
 else
  ((z64 (i3 + 1)).bind fun v6 =>
  some (.inl v6)))
 else
 some (.inr (.inl ()))
def bB.j1 (l1:LF) (most2:Int):Option Bool :=
 bif (leZ (l1.length:Int) most2) then
 ((cx l1).bind fun l7 =>
 (bW l7).bind fun u8 =>
 some u8)
 else
 some false
def bB (l1:LF) (most2:Int):Option Bool :=
 (bO (fun x=>bB.b1 l1 x) 0).bind fun x=>match x with
 | .inl x =>
 bB.j1 l1 most2
 | .inr r=>some r
def du.b1 (l1:LE) (i2:Int):Option ((Int) ⊕ (Bool)) :=
 bif (ltZ i2 (l1.length:Int)) then
 ((idx l1 i2).bind fun v3 =>
 (cu v3.1 v3.2.1 v3.2.2.1 v3.2.2.2.1 v3.2.2.2.2.1 (v3.2.2.2.2.2.map (Uun 1))).bind fun r4 =>
 bif (!r4) then
  some (.inr false)
 else
  ((z64 (i2 + 1)).bind fun v5 =>
  some (.inl v5)))
 else
 some (.inr true)
def du (l1:LE):Option Bool :=
 bO (fun x=>du.b1 l1 x) 0
def bz.j1 (i15:Int) (l18:LB) (v23:Bool):Option ((Int × LB) ⊕ ((LB) ⊕ (Bool))) :=
 bif v23 then
 some (.inr (.inr false))
 else
 ((z64 (i15 + 1)).bind fun v24 =>
 some (.inl (v24,l18)))
def bz.b1 (m5:LU) (i15:Int) (names16:LB):Option ((Int × LB) ⊕ ((LB) ⊕ (Bool))) :=
 bif (ltZ i15 (m5.length:Int)) then
 ((idx m5 i15).bind fun v17 =>
 (app? names16 ([v17.1]:LB)).bind fun l18 =>
 ((bB (v17.2.2.1.map (Uun 0)) 6).bind fun f19 =>
 bif (!f19) then
  some true
 else
  ((cI v17.2.2.2.1.1 (v17.2.2.2.1.2.map (Uun 0))).bind fun r20 =>
  bif (!r20) then
  some true
  else
  ((cO v17.2.2.2.2.1 0 15).bind fun w21 =>
  bif (!w21) then
   some true
  else
   ((cu v17.2.2.2.2.2.1 v17.2.2.2.2.2.2.1 v17.2.2.2.2.2.2.2.1 v17.2.2.2.2.2.2.2.2.1 v17.2.2.2.2.2.2.2.2.2.1 (v17.2.2.2.2.2.2.2.2.2.2.map (Uun 1))).bind fun r22 =>
   some (!r22))))).bind fun x =>
 bz.j1 i15 l18 x)
 else
 some (.inr (.inl names16))
def bz.j2 (m3:LF) (m6:Bool) (m7:LF) (m8:LE) (m9:LE) (names25:LB):Option Bool :=
 (bW names25).bind fun u26 =>
 bif (!u26) then
 some false
 else
 (bif (!m6) then
  ((z64 ((m7.length:Int) + (m8.length:Int))).bind fun v27 =>
  (z64 (v27 + (m9.length:Int))).bind fun v28 =>
  some (eqZ v28 0))
 else
  ((bB m7 8).bind fun f29 =>
  bif f29 then
  (bif (eqZ (m8.length:Int) (m3.length:Int)) then
   (bif (eqZ (m9.length:Int) (m7.length:Int)) then
   ((du m8).bind fun a30 =>
   bif a30 then
    ((du m9).bind fun a31 =>
    some a31)
   else
    some false)
   else
   some false)
  else
   some false)
  else
  some false))
def bz.j3 (m3:LF) (m5:LU) (m6:Bool) (m7:LF) (m8:LE) (m9:LE) (v14:Bool):Option Bool :=
 bif v14 then
 some false
 else
 ((bO (fun x=>bz.b1 m5 x.1 x.2) (0,[])).bind fun x=>match x with
 | .inl x =>
  bz.j2 m3 m6 m7 m8 m9 x
 | .inr r=>some r)
def bz (m1:Bs) (m2:LB) (m3:LF) (m4:LE) (m5:LU) (m6:Bool) (m7:LF) (m8:LE) (m9:LE):Option Bool :=
 ((cq m1).bind fun n10 =>
 bif (!n10) then
 some true
 else
 (bif (ltZ 12 (m2.length:Int)) then
  some true
 else
  ((bW m2).bind fun u11 =>
  bif (!u11) then
  some true
  else
  ((bB m3 8).bind fun f12 =>
  bif (!f12) then
   some true
  else
   (bif (!eqZ (m4.length:Int) (m3.length:Int)) then
   some true
   else
   ((du m4).bind fun a13 =>
   bif (!a13) then
    some true
   else
    some (ltZ 30 (m5.length:Int)))))))).bind fun x =>
 bz.j3 m3 m5 m6 m7 m8 m9 x
def aI.b1 (v6:gD) (n7:Int):Option ((Int) ⊕ ((Unit) ⊕ ((Int) ⊕ ((Int) ⊕ (Bool))))) :=
 bif (ltZ n7 (v6.2.1.length:Int)) then
 ((idx v6.2.1 n7).bind fun v8 =>
 (aN v8.1 (v8.2.map (Uun 0))).bind fun r9 =>
 bif (!r9) then
  some (.inr (.inr (.inr (.inr false))))
 else
  ((z64 (n7 + 1)).bind fun v10 =>
  some (.inl v10)))
 else
 some (.inr (.inl ()))
def aI.j1 (k3:Int) (v6:gD):Option ((Int) ⊕ ((Int) ⊕ (Bool))) :=
 (aN v6.2.2.1.1 (v6.2.2.1.2.map (Uun 0))).bind fun r11 =>
 bif (!r11) then
 some (.inr (.inr false))
 else
 ((z64 (k3 + 1)).bind fun v12 =>
 some (.inl v12))
def aI.b2 (faces1:LA) (i2:Int) (k3:Int):Option ((Int) ⊕ ((Int) ⊕ (Bool))) :=
 (idx faces1 i2).bind fun v4 =>
 bif (ltZ k3 (v4.2.length:Int)) then
 ((idx faces1 i2).bind fun v5 =>
 (idx v5.2 k3).bind fun v6 =>
 (bO (fun x=>aI.b1 v6 x) 0).bind fun x=>match x with
 | .inl x =>
  aI.j1 k3 v6
 | .inr r=>some r)
 else
 (Option.map Sum.inr ((z64 (i2 + 1)).bind fun v13 =>
 some (.inl v13)))
def aI.b3 (faces1:LA) (i2:Int):Option ((Int) ⊕ (Bool)) :=
 bif (ltZ i2 (faces1.length:Int)) then
 (bO (fun x=>aI.b2 faces1 i2 x) 0)
 else
 some (.inr true)
def aI (faces1:LA):Option Bool :=
 bO (fun x=>aI.b3 faces1 x) 0
def dn (Gr:Gr7) (c1:Bs) (c2:LB) (c3:LF) (c4:LE) (c5:LU) (c6:Bool) (c7:LF) (c8:LE) (c9:LE) (c10:LA) (locals11:LF) (e12:Int) (e13:Int) (e14:Bs) (e15:Bs) (e16:LB) (e17:LE):Option (aK × Int × Int) :=
 (bD c3 e14).bind fun f18 =>
 bif (!f18.2) then
 some ((0,[]),0,12)
 else
 (bif (eqZ e12 17) then
  some ((f18.1.1,((f18.1.2.map (Uun 0)).map (Umk 0))),0,0)
 else
  ((idx e17 0).bind fun v19 =>
  (Gr c1 c2 c3 c4 c5 c6 c7 c8 c9 c10 locals11 v19.1 v19.2.1 v19.2.2.1 v19.2.2.2.1 v19.2.2.2.2.1 (v19.2.2.2.2.2.map (Uun 1))).bind fun o20 =>
  bif (!eqZ o20.2.2 0) then
  some ((0,[]),0,o20.2.2)
  else
  ((aF o20.1.1 (o20.1.2.map (Uun 0)) f18.1.1 (f18.1.2.map (Uun 0))).bind fun s21 =>
  bif (!s21) then
   some ((0,[]),0,13)
  else
   some ((f18.1.1,((f18.1.2.map (Uun 0)).map (Umk 0))),o20.2.1,0))))
def de.b1 (faces1:LA) (module2:Bs) (i3:Int):Option ((Int) ⊕ (bH × Bool)) :=
 bif (ltZ i3 (faces1.length:Int)) then
 ((idx faces1 i3).bind fun v4 =>
 bif (decide (v4.1 = module2)) then
  ((idx faces1 i3).bind fun v5 =>
  some (.inr (v5,true)))
 else
  ((z64 (i3 + 1)).bind fun v6 =>
  some (.inl v6)))
 else
 some (.inr ((([]:Bs),[]),false))
def de (faces1:LA) (module2:Bs):Option (bH × Bool) :=
 bO (fun x=>de.b1 faces1 module2 x) 0
def ah.b1 (v18:fW) (k19:Int) (s20:Bs) (s21:Int) (s22:LF) (s23:Int) (v24:LT):Option ((Int × Bs × Int × (LF) × Int × LT) ⊕ ((Int) ⊕ ((Unit) ⊕ (gD × Bool)))) :=
 bif (ltZ k19 ((v18.2.2.1.map (Uun 0)).length:Int)) then
 ((idx (v18.2.2.1.map (Uun 0)) k19).bind fun v25 =>
 (app? v24 ([(v25.2.1,((v25.2.2.map (Uun 0)).map (Umk 0)))]:LT)).bind fun l26 =>
 (z64 (k19 + 1)).bind fun v27 =>
 some (.inl (v27,s20,s21,s22,s23,l26)))
 else
 some (.inr (.inr (.inr ((s20,v24,(s21,(s22.map (Umk 0))),s23),true))))
def ah.b2 (c5:LU) (e13:Bs) (i17:Int):Option ((Int) ⊕ ((Unit) ⊕ (gD × Bool))) :=
 bif (ltZ i17 (c5.length:Int)) then
 ((idx c5 i17).bind fun v18 =>
 bif (decide (v18.1 = e13)) then
  (bO (fun x=>ah.b1 v18 x.1 x.2.1 x.2.2.1 x.2.2.2.1 x.2.2.2.2.1 x.2.2.2.2.2) (0,v18.1,v18.2.2.2.1.1,(v18.2.2.2.1.2.map (Uun 0)),v18.2.2.2.2.1,[]))
 else
  ((z64 (i17 + 1)).bind fun v28 =>
  some (.inl v28)))
 else
 some (.inr (.inr ((([]:Bs),[],(0,[]),0),false)))
def ah.b3 (c2:LB) (e14:Bs) (used29:Bool) (i30:Int):Option ((Bool × Int) ⊕ (Bool)) :=
 bif (ltZ i30 (c2.length:Int)) then
 (bif used29 then
  ((z64 (i30 + 1)).bind fun v31 =>
  some (.inl (true,v31)))
 else
  ((idx c2 i30).bind fun v32 =>
  (z64 (i30 + 1)).bind fun v33 =>
  some (.inl ((decide (v32 = e14)),v33))))
 else
 some (.inr used29)
def ah.b4 (e13:Bs) (f35:bH × Bool) (i37:Int):Option ((Int) ⊕ (gD × Bool)) :=
 bif (ltZ i37 (f35.1.2.length:Int)) then
 ((idx f35.1.2 i37).bind fun v38 =>
 bif (decide (v38.1 = e13)) then
  ((idx f35.1.2 i37).bind fun v39 =>
  some (.inr ((v39.1,v39.2.1,(v39.2.2.1.1,((v39.2.2.1.2.map (Uun 0)).map (Umk 0))),v39.2.2.2),true)))
 else
  ((z64 (i37 + 1)).bind fun v40 =>
  some (.inl v40)))
 else
 some (.inr ((([]:Bs),[],(0,[]),0),false))
def ah.j1 (e13:Bs) (f35:bH × Bool) (v36:Bool):Option (gD × Bool) :=
 bif v36 then
 some ((([]:Bs),[],(0,[]),0),false)
 else
 (bO (fun x=>ah.b4 e13 f35 x) 0)
def ah.j2 (c10:LA) (e13:Bs) (e14:Bs) (used34:Bool):Option (gD × Bool) :=
 (de c10 e14).bind fun f35 =>
 (bif (!used34) then
 some true
 else
 some (!f35.2)).bind fun x =>
 ah.j1 e13 f35 x
def ah.j3 (c2:LB) (c10:LA) (e13:Bs) (e14:Bs):Option (gD × Bool) :=
 (bO (fun x=>ah.b3 c2 e14 x.1 x.2) (false,0)).bind fun x =>
 ah.j2 c10 e13 e14 x
def ah (c1:Bs) (c2:LB) (c3:LF) (c4:LE) (c5:LU) (c6:Bool) (c7:LF) (c8:LE) (c9:LE) (c10:LA) (e11:Int) (e12:Int) (e13:Bs) (e14:Bs) (e15:LB) (e16:LE):Option (gD × Bool) :=
 ((bif (decide (e14 = ([]:Bs))) then
 (bO (fun x=>ah.b2 c5 e13 x) 0)
 else
 some (.inl ())):Option ((Unit) ⊕ (gD × Bool))).bind fun x=>match x with
 | .inl x =>
 ah.j3 c2 c10 e13 e14
 | .inr r=>some r
def bM.b1 (Gr:Gr7) (c1:Bs) (c2:LB) (c3:LF) (c4:LE) (c5:LU) (c6:Bool) (c7:LF) (c8:LE) (c9:LE) (c10:LA) (locals11:LF) (l12:LE) (effects13:Int) (i14:Int) (out15:LT):Option ((Int × Int × LT) ⊕ ((LT) × Int × Int)) :=
 bif (ltZ i14 (l12.length:Int)) then
 ((idx l12 i14).bind fun v16 =>
 (Gr c1 c2 c3 c4 c5 c6 c7 c8 c9 c10 locals11 v16.1 v16.2.1 v16.2.2.1 v16.2.2.2.1 v16.2.2.2.2.1 (v16.2.2.2.2.2.map (Uun 1))).bind fun o17 =>
 bif (!eqZ o17.2.2 0) then
  some (.inr ([],0,o17.2.2))
 else
  ((app? out15 ([(o17.1.1,((o17.1.2.map (Uun 0)).map (Umk 0)))]:LT)).bind fun l18 =>
  (z64 (i14 + 1)).bind fun v19 =>
  some (.inl ((orI .i64 effects13 o17.2.1),v19,l18))))
 else
 some (.inr (out15,effects13,0))
def bM (Gr:Gr7) (c1:Bs) (c2:LB) (c3:LF) (c4:LE) (c5:LU) (c6:Bool) (c7:LF) (c8:LE) (c9:LE) (c10:LA) (locals11:LF) (l12:LE):Option ((LT) × Int × Int) :=
 bO (fun x=>bM.b1 Gr c1 c2 c3 c4 c5 c6 c7 c8 c9 c10 locals11 l12 x.1 x.2.1 x.2.2) (0,0,[])
def cH.b1 (f18:gD × Bool) (a19:(LT) × Int × Int) (i20:Int):Option ((Int) ⊕ (aK × Int × Int)) :=
 bif (ltZ i20 (a19.1.length:Int)) then
 ((idx a19.1 i20).bind fun v21 =>
 (idx f18.1.2.1 i20).bind fun v22 =>
 (aF v21.1 (v21.2.map (Uun 0)) v22.1 (v22.2.map (Uun 0))).bind fun s23 =>
 bif (!s23) then
  some (.inr ((0,[]),0,13))
 else
  ((z64 (i20 + 1)).bind fun v24 =>
  some (.inl v24)))
 else
 some (.inr ((f18.1.2.2.1.1,((f18.1.2.2.1.2.map (Uun 0)).map (Umk 0))),(orI .i64 a19.2.1 f18.1.2.2.2),0))
def cH (Gr:Gr7) (c1:Bs) (c2:LB) (c3:LF) (c4:LE) (c5:LU) (c6:Bool) (c7:LF) (c8:LE) (c9:LE) (c10:LA) (locals11:LF) (e12:Int) (e13:Int) (e14:Bs) (e15:Bs) (e16:LB) (e17:LE):Option (aK × Int × Int) :=
 (ah c1 c2 c3 c4 c5 c6 c7 c8 c9 c10 e12 e13 e14 e15 e16 e17).bind fun f18 =>
 bif (!f18.2) then
 some ((0,[]),0,12)
 else
 (bif (!eqZ (f18.1.2.1.length:Int) (e17.length:Int)) then
  some ((0,[]),0,13)
 else
  ((bM Gr c1 c2 c3 c4 c5 c6 c7 c8 c9 c10 locals11 e17).bind fun a19 =>
  bif (!eqZ a19.2.2 0) then
  some ((0,[]),0,a19.2.2)
  else
  (bO (fun x=>cH.b1 f18 a19 x) 0)))
def cQ.b1 (l1:LT) (kind2:Int) (i3:Int):Option ((Int) ⊕ (Bool)) :=
 bif (ltZ i3 (l1.length:Int)) then
 ((idx l1 i3).bind fun v4 =>
 bif (!eqZ v4.1 kind2) then
  some (.inr false)
 else
  ((z64 (i3 + 1)).bind fun v5 =>
  some (.inl v5)))
 else
 some (.inr true)
def cQ (l1:LT) (kind2:Int):Option Bool :=
 bO (fun x=>cQ.b1 l1 kind2 x) 0
def dD (kind1:Int) (ok2:Bool):Option (aK × Int) :=
 bif (!ok2) then
 some ((0,[]),13)
 else
 some ((kind1,[]),0)
def bP.j1 (j22:aK × Bool) (v24:Bool):Option (aK × Int) :=
 bif v24 then
 some ((0,[]),13)
 else
 some ((j22.1.1,((j22.1.2.map (Uun 0)).map (Umk 0))),0)
def bP.b1 (e5:LB) (l7:LT) (i25:Int) (t26:Int) (v27:LF):Option ((Int × Int × LF) ⊕ (aK × Int)) :=
 bif (ltZ i25 (l7.length:Int)) then
 ((idx e5 i25).bind fun v28 =>
 (idx l7 i25).bind fun v29 =>
 (app? v27 ([(v28,v29.1,((v29.2.map (Uun 0)).map (Umk 0)))]:LF)).bind fun l30 =>
 (z64 (i25 + 1)).bind fun v31 =>
 some (.inl (v31,t26,l30)))
 else
 some (.inr ((t26,(v27.map (Umk 0))),0))
def bP.j2 (e1:Int) (e3:Bs) (e5:LB) (l7:LT) (v17:Bool):Option (aK × Int) :=
 bif v17 then
 ((cQ l7 1).bind fun k18 =>
 (dD 1 k18).bind fun t19 =>
 some ((t19.1.1,((t19.1.2.map (Uun 0)).map (Umk 0))),t19.2))
 else
 (bif (eqZ e1 11) then
  ((idx l7 1).bind fun v20 =>
  (idx l7 2).bind fun v21 =>
  (aZ v20.1 (v20.2.map (Uun 0)) v21.1 (v21.2.map (Uun 0))).bind fun j22 =>
  ((idx l7 0).bind fun v23 =>
  bif (!eqZ v23.1 1) then
  some true
  else
  some (!j22.2)).bind fun x =>
  bP.j1 j22 x)
 else
  (bif (eqZ e1 13) then
  (bO (fun x=>bP.b1 e5 l7 x.1 x.2.1 x.2.2) (0,2,[]))
  else
  (bif (eqZ e1 14) then
   ((idx l7 0).bind fun v32 =>
   (bD (v32.2.map (Uun 0)) e3).bind fun f33 =>
   bif (!f33.2) then
   some ((0,[]),13)
   else
   some ((f33.1.1,((f33.1.2.map (Uun 0)).map (Umk 0))),0))
  else
   some ((0,[]),0))))
def bP.j3 (e1:Int) (e3:Bs) (e5:LB) (l7:LT) (v8:Bool):Option (aK × Int) :=
 bif v8 then
 ((cQ l7 0).bind fun k9 =>
 (dD 0 k9).bind fun t10 =>
 some ((t10.1.1,((t10.1.2.map (Uun 0)).map (Umk 0))),t10.2))
 else
 (bif (eqZ e1 6) then
  ((cQ l7 0).bind fun k11 =>
  (dD 1 k11).bind fun t12 =>
  some ((t12.1.1,((t12.1.2.map (Uun 0)).map (Umk 0))),t12.2))
 else
  (bif (eqZ e1 7) then
  ((cQ l7 0).bind fun k13 =>
  bif k13 then
   ((dD 1 true).bind fun t14 =>
   some ((t14.1.1,((t14.1.2.map (Uun 0)).map (Umk 0))),t14.2))
  else
   ((cQ l7 1).bind fun k15 =>
   (dD 1 k15).bind fun t16 =>
   some ((t16.1.1,((t16.1.2.map (Uun 0)).map (Umk 0))),t16.2)))
  else
  ((bif (eqZ e1 8) then
   some (eqZ e1 8)
  else
   (bif (eqZ e1 9) then
   some (eqZ e1 9)
   else
   some (eqZ e1 10))).bind fun x =>
  bP.j2 e1 e3 e5 l7 x)))
def bP (e1:Int) (e2:Int) (e3:Bs) (e4:Bs) (e5:LB) (e6:LE) (l7:LT):Option (aK × Int) :=
 bif (eqZ e1 1) then
 some ((1,[]),0)
 else
 ((bif (eqZ e1 3) then
  some (eqZ e1 3)
 else
  (bif (eqZ e1 4) then
  some (eqZ e1 4)
  else
  (bif (eqZ e1 5) then
   some (eqZ e1 5)
  else
   some (eqZ e1 16)))).bind fun x =>
 bP.j3 e1 e3 e5 l7 x)
def ai.j1 (Gr:Gr7) (c1:Bs) (c2:LB) (c3:LF) (c4:LE) (c5:LU) (c6:Bool) (c7:LF) (c8:LE) (c9:LE) (c10:LA) (locals11:LF) (e12:Int) (e13:Int) (e14:Bs) (e15:Bs) (e16:LB) (e17:LE) (v25:Bool):Option (aK × Int × Int) :=
 bif v25 then
 ((dn Gr c1 c2 c3 c4 c5 c6 c7 c8 c9 c10 locals11 e12 e13 e14 e15 e16 e17).bind fun v26 =>
 some ((v26.1.1,((v26.1.2.map (Uun 0)).map (Umk 0))),v26.2.1,v26.2.2))
 else
 (bif (eqZ e12 15) then
  ((cH Gr c1 c2 c3 c4 c5 c6 c7 c8 c9 c10 locals11 e12 e13 e14 e15 e16 e17).bind fun c27 =>
  some ((c27.1.1,((c27.1.2.map (Uun 0)).map (Umk 0))),c27.2.1,c27.2.2))
 else
  ((bM Gr c1 c2 c3 c4 c5 c6 c7 c8 c9 c10 locals11 e17).bind fun a28 =>
  bif (!eqZ a28.2.2 0) then
  some ((0,[]),0,a28.2.2)
  else
  ((bP e12 e13 e14 e15 e16 e17 a28.1).bind fun p29 =>
  bif (eqZ e12 16) then
   some ((p29.1.1,((p29.1.2.map (Uun 0)).map (Umk 0))),(orI .i64 a28.2.1 e13),p29.2)
  else
   some ((p29.1.1,((p29.1.2.map (Uun 0)).map (Umk 0))),a28.2.1,p29.2))))
def ai.body (Gr:Gr7) (c1:Bs) (c2:LB) (c3:LF) (c4:LE) (c5:LU) (c6:Bool) (c7:LF) (c8:LE) (c9:LE) (c10:LA) (locals11:LF) (e12:Int) (e13:Int) (e14:Bs) (e15:Bs) (e16:LB) (e17:LE):Option (aK × Int × Int) :=
 bif (eqZ e12 2) then
 ((bD locals11 e14).bind fun f18 =>
 bif (!f18.2) then
  some ((0,[]),0,12)
 else
  some ((f18.1.1,((f18.1.2.map (Uun 0)).map (Umk 0))),0,0))
 else
 (bif (eqZ e12 12) then
  ((idx e17 0).bind fun v19 =>
  (Gr c1 c2 c3 c4 c5 c6 c7 c8 c9 c10 locals11 v19.1 v19.2.1 v19.2.2.1 v19.2.2.2.1 v19.2.2.2.2.1 (v19.2.2.2.2.2.map (Uun 1))).bind fun o20 =>
  bif (!eqZ o20.2.2 0) then
  some ((0,[]),0,o20.2.2)
  else
  ((app? ([]:LF) locals11).bind fun l21 =>
  (app? l21 ([(e14,o20.1.1,((o20.1.2.map (Uun 0)).map (Umk 0)))]:LF)).bind fun l22 =>
  (idx e17 1).bind fun v23 =>
  (Gr c1 c2 c3 c4 c5 c6 c7 c8 c9 c10 l22 v23.1 v23.2.1 v23.2.2.1 v23.2.2.2.1 v23.2.2.2.2.1 (v23.2.2.2.2.2.map (Uun 1))).bind fun o24 =>
  some ((o24.1.1,((o24.1.2.map (Uun 0)).map (Umk 0))),(orI .i64 o20.2.1 o24.2.1),o24.2.2)))
 else
  ((bif (eqZ e12 17) then
  some (eqZ e12 17)
  else
  some (eqZ e12 18)).bind fun x =>
  ai.j1 Gr c1 c2 c3 c4 c5 c6 c7 c8 c9 c10 locals11 e12 e13 e14 e15 e16 e17 x))
def ai.rec:Nat → Bs → LB → LF → LE → LU → Bool → LF → LE → LE → LA → LF → Int → Int → Bs → Bs → LB → LE → Option (aK × Int × Int)
 | 0=>fun _ _ _ _ _ _ _ _ _ _ _ _ _ _ _ _ _=>none
 | n + 1=>ai.body (ai.rec n)
def ai (c1:Bs) (c2:LB) (c3:LF) (c4:LE) (c5:LU) (c6:Bool) (c7:LF) (c8:LE) (c9:LE) (c10:LA) (locals11:LF) (e12:Int) (e13:Int) (e14:Bs) (e15:Bs) (e16:LB) (e17:LE):Option (aK × Int × Int):=ai.rec Fuel.n c1 c2 c3 c4 c5 c6 c7 c8 c9 c10 locals11 e12 e13 e14 e15 e16 e17
def cj.b1 (locals11:LF) (i18:Int):Option ((Int) ⊕ ((Unit) ⊕ (aK × Int × Int))) :=
 bif (ltZ i18 (locals11.length:Int)) then
 ((idx locals11 i18).bind fun v19 =>
 (aN v19.2.1 (v19.2.2.map (Uun 0))).bind fun r20 =>
 bif (!r20) then
  some (.inr (.inr ((0,[]),0,1)))
 else
  ((z64 (i18 + 1)).bind fun v21 =>
  some (.inl v21)))
 else
 some (.inr (.inl ()))
def cj.j1 (m1:Bs) (m2:LB) (m3:LF) (m4:LE) (m5:LU) (m6:Bool) (m7:LF) (m8:LE) (m9:LE) (faces10:LA) (locals11:LF) (e12:Int) (e13:Int) (e14:Bs) (e15:Bs) (e16:LB) (e17:LE) (v25:Bool):Option (aK × Int × Int) :=
 bif v25 then
 some ((0,[]),0,1)
 else
 ((ai m1 m2 m3 m4 m5 m6 m7 m8 m9 faces10 locals11 e12 e13 e14 e15 e16 e17).bind fun o26 =>
 bif (!eqZ o26.2.2 0) then
  some ((0,[]),0,o26.2.2)
 else
  some ((o26.1.1,((o26.1.2.map (Uun 0)).map (Umk 0))),o26.2.1,0))
def cj.j2 (m1:Bs) (m2:LB) (m3:LF) (m4:LE) (m5:LU) (m6:Bool) (m7:LF) (m8:LE) (m9:LE) (faces10:LA) (locals11:LF) (e12:Int) (e13:Int) (e14:Bs) (e15:Bs) (e16:LB) (e17:LE):Option (aK × Int × Int) :=
 (cu e12 e13 e14 e15 e16 e17).bind fun r22 =>
 (bz m1 m2 m3 m4 m5 m6 m7 m8 m9).bind fun r23 =>
 (bif (!r22) then
 some true
 else
 (bif (!r23) then
  some true
 else
  ((aI faces10).bind fun r24 =>
  some (!r24)))).bind fun x =>
 cj.j1 m1 m2 m3 m4 m5 m6 m7 m8 m9 faces10 locals11 e12 e13 e14 e15 e16 e17 x
def cj (m1:Bs) (m2:LB) (m3:LF) (m4:LE) (m5:LU) (m6:Bool) (m7:LF) (m8:LE) (m9:LE) (faces10:LA) (locals11:LF) (e12:Int) (e13:Int) (e14:Bs) (e15:Bs) (e16:LB) (e17:LE):Option (aK × Int × Int) :=
 (bO (fun x=>cj.b1 locals11 x) 0).bind fun x=>match x with
 | .inl x =>
 cj.j2 m1 m2 m3 m4 m5 m6 m7 m8 m9 faces10 locals11 e12 e13 e14 e15 e16 e17
 | .inr r=>some r
def b8.j1 (v13:Int) (v14:Bs) (v15:Bool):Option ((Int) ⊕ ((Unit) ⊕ (Bs × Int))) :=
 bif v15 then
 some (.inr (.inr (v14,12)))
 else
 ((z64 (v13 + 1)).bind fun v16 =>
 some (.inl v16))
def b8.b1 (m1:Bs) (m2:LB) (n11:Bs × (LB) × (LF) × (LE) × (LU) × Bool × (LF) × (LE) × (LE) × Int × List (Bs × bH)) (v13:Int):Option ((Int) ⊕ ((Unit) ⊕ (Bs × Int))) :=
 bif (ltZ v13 (m2.length:Int)) then
 ((idx m2 v13).bind fun v14 =>
 (bif (!(cD n11.2.2.2.2.2.2.2.2.2.2 v14).isSome) then
  some true
 else
  some (decide (v14 = m1))).bind fun x =>
 b8.j1 v13 v14 x)
 else
 some (.inr (.inl ()))
def b8.b2 (m5:LU) (v18:Int) (j19:Bs) (j20:LB) (j21:LF) (j22:LE) (j23:LU) (j24:Bool) (j25:LF) (j26:LE) (j27:LE) (j28:Int) (v29:List (Bs × bH)):Option ((Int × Bs × (LB) × (LF) × (LE) × (LU) × Bool × (LF) × (LE) × (LE) × Int × List (Bs × bH)) ⊕ (Bs × Int)) :=
 bif (ltZ v18 (m5.length:Int)) then
 ((idx m5 v18).bind fun v30 =>
 (aw (v30.2.2.1.map (Uun 0)) v30.2.2.2.2.2.1 v30.2.2.2.2.2.2.1 v30.2.2.2.2.2.2.2.1 v30.2.2.2.2.2.2.2.2.1 v30.2.2.2.2.2.2.2.2.2.1 (v30.2.2.2.2.2.2.2.2.2.2.map (Uun 1)) j19 j20 j21 j22 j23 j24 j25 j26 j27 0 v29).bind fun f31 =>
 bif (!eqZ f31.2.1 0) then
  some (.inr (v30.1,f31.2.1))
 else
  ((bf f31.1.1 (f31.1.2.map (Uun 0)) v30.2.2.2.1.1 (v30.2.2.2.1.2.map (Uun 0))).bind fun b32 =>
  bif (!b32) then
  some (.inr (v30.1,13))
  else
  (bif (!eqZ (anI .i64 f31.2.2.2.2.2.2.2.2.2.2.2.1 v30.2.2.2.2.1) 0) then
   some (.inr (v30.1,14))
  else
   ((z64 (v18 + 1)).bind fun v33 =>
   some (.inl (v33,f31.2.2.1,f31.2.2.2.1,f31.2.2.2.2.1,f31.2.2.2.2.2.1,f31.2.2.2.2.2.2.1,f31.2.2.2.2.2.2.2.1,f31.2.2.2.2.2.2.2.2.1,f31.2.2.2.2.2.2.2.2.2.1,f31.2.2.2.2.2.2.2.2.2.2.1,f31.2.2.2.2.2.2.2.2.2.2.2.1,f31.2.2.2.2.2.2.2.2.2.2.2.2))))))
 else
 some (.inr (([]:Bs),0))
def b8.j2 (m1:Bs) (m2:LB) (m3:LF) (m4:LE) (m5:LU) (m6:Bool) (m7:LF) (m8:LE) (m9:LE) (n11:Bs × (LB) × (LF) × (LE) × (LU) × Bool × (LF) × (LE) × (LE) × Int × List (Bs × bH)):Option (Bs × Int) :=
 (cB m1 m2 m3 m4 m5 m6 m7 m8 m9).bind fun m17 =>
 bif (!eqZ m17.2 0) then
 some (m17.1,m17.2)
 else
 (bO (fun x=>b8.b2 m5 x.1 x.2.1 x.2.2.1 x.2.2.2.1 x.2.2.2.2.1 x.2.2.2.2.2.1 x.2.2.2.2.2.2.1 x.2.2.2.2.2.2.2.1 x.2.2.2.2.2.2.2.2.1 x.2.2.2.2.2.2.2.2.2.1 x.2.2.2.2.2.2.2.2.2.2.1 x.2.2.2.2.2.2.2.2.2.2.2) (0,n11.1,n11.2.1,n11.2.2.1,n11.2.2.2.1,n11.2.2.2.2.1,n11.2.2.2.2.2.1,n11.2.2.2.2.2.2.1,n11.2.2.2.2.2.2.2.1,n11.2.2.2.2.2.2.2.2.1,n11.2.2.2.2.2.2.2.2.2.1,n11.2.2.2.2.2.2.2.2.2.2))
def b8 (m1:Bs) (m2:LB) (m3:LF) (m4:LE) (m5:LU) (m6:Bool) (m7:LF) (m8:LE) (m9:LE) (faces10:LA):Option (Bs × Int) :=
 orT (
 (bj m1 m2 m3 m4 m5 m6 m7 m8 m9 faces10).bind fun n11 =>
 (au m1 m2 m3 m4 m5 m6 m7 m8 m9).bind fun r12 =>
 bif (!r12) then
  some (([]:Bs),1)
 else
  ((bO (fun x=>b8.b1 m1 m2 n11 x) 0).bind fun x=>match x with
  | .inl x =>
  b8.j2 m1 m2 m3 m4 m5 m6 m7 m8 m9 n11
  | .inr r=>some r)) (
 (aE m1 m2 m3 m4 m5 m6 m7 m8 m9 faces10).bind fun v34 =>
 some (([]:Bs),1))
def bY.j1 (t9:Int) (t10:LF) (effects11:Int) (o13:aK × Int × Int) (v14:Bool):Option Int :=
 bif v14 then
 some 14
 else
 ((aF o13.1.1 (o13.1.2.map (Uun 0)) t9 t10).bind fun s15 =>
 bif (!s15) then
  some 13
 else
  (bif (!eqZ (anI .i64 o13.2.1 effects11) 0) then
  some 14
  else
  some 0))
def bY (c1:Hr) (locals2:LF) (e3:Int) (e4:Int) (e5:Bs) (e6:Bs) (e7:LB) (e8:LE) (t9:Int) (t10:LF) (effects11:Int) (late12:Bool):Option Int :=
 (ai c1.1.1 c1.1.2.1 (c1.1.2.2.1.map (Uun 0)) (c1.1.2.2.2.1.map (Uun 1)) c1.1.2.2.2.2.1 c1.1.2.2.2.2.2.1 (c1.1.2.2.2.2.2.2.1.map (Uun 0)) (c1.1.2.2.2.2.2.2.2.1.map (Uun 1)) (c1.1.2.2.2.2.2.2.2.2.map (Uun 1)) c1.2 locals2 e3 e4 e5 e6 e7 e8).bind fun o13 =>
 bif (!eqZ o13.2.2 0) then
 some o13.2.2
 else
 ((bif (!eqZ (anI .i64 o13.2.1 effects11) 0) then
  some (!late12)
 else
  some false).bind fun x =>
 bY.j1 t9 t10 effects11 o13 x)
def cy.j1 (t18:Int) (t19:LF) (effects20:Int) (o22:aK × Int × Int) (v23:Bool):Option Int :=
 bif v23 then
 some 14
 else
 ((aF o22.1.1 (o22.1.2.map (Uun 0)) t18 t19).bind fun s24 =>
 bif (!s24) then
  some 13
 else
  (bif (!eqZ (anI .i64 o22.2.1 effects20) 0) then
  some 14
  else
  some 0))
def cy (c1:Bs) (c2:LB) (c3:LF) (c4:LE) (c5:LU) (c6:Bool) (c7:LF) (c8:LE) (c9:LE) (c10:LA) (locals11:LF) (e12:Int) (e13:Int) (e14:Bs) (e15:Bs) (e16:LB) (e17:LE) (t18:Int) (t19:LF) (effects20:Int) (late21:Bool):Option Int :=
 (ai c1 c2 c3 c4 c5 c6 c7 c8 c9 c10 locals11 e12 e13 e14 e15 e16 e17).bind fun o22 =>
 bif (!eqZ o22.2.2 0) then
 some o22.2.2
 else
 ((bif (!eqZ (anI .i64 o22.2.1 effects20) 0) then
  some (!late21)
 else
  some false).bind fun x =>
 cy.j1 t18 t19 effects20 o22 x)
def aj.j1 (m2:LB) (i14:Int) (v18:Bool):Option ((Int) ⊕ ((Unit) ⊕ (Bs × Int))) :=
 bif v18 then
 ((idx m2 i14).bind fun v19 =>
 some (.inr (.inr (v19,12))))
 else
 ((z64 (i14 + 1)).bind fun v20 =>
 some (.inl v20))
def aj.b1 (m1:Bs) (m2:LB) (faces10:LA) (i14:Int):Option ((Int) ⊕ ((Unit) ⊕ (Bs × Int))) :=
 bif (ltZ i14 (m2.length:Int)) then
 ((idx m2 i14).bind fun v15 =>
 (de faces10 v15).bind fun f16 =>
 (bif (!f16.2) then
  some true
 else
  ((idx m2 i14).bind fun v17 =>
  some (decide (v17 = m1)))).bind fun x =>
 aj.j1 m2 i14 x)
 else
 some (.inr (.inl ()))
def aj.b2 (m1:Bs) (m3:LF) (m4:LE) (i21:Int):Option ((Int) ⊕ ((Unit) ⊕ (Bs × Int))) :=
 bif (ltZ i21 (m3.length:Int)) then
 ((idx m4 i21).bind fun v22 =>
 (idx m3 i21).bind fun v23 =>
 (bY ((m1,[],[],[],[],false,[],[],[]),[]) [] v22.1 v22.2.1 v22.2.2.1 v22.2.2.2.1 v22.2.2.2.2.1 (v22.2.2.2.2.2.map (Uun 1)) v23.2.1 (v23.2.2.map (Uun 0)) 0 false).bind fun f24 =>
 bif (!eqZ f24 0) then
  ((idx m3 i21).bind fun v25 =>
  some (.inr (.inr (v25.1,f24))))
 else
  ((z64 (i21 + 1)).bind fun v26 =>
  some (.inl v26)))
 else
 some (.inr (.inl ()))
def aj.b3 (m1:Bs) (m3:LF) (m7:LF) (m8:LE) (i27:Int):Option ((Int) ⊕ ((Unit) ⊕ ((Unit) ⊕ (Bs × Int)))) :=
 bif (ltZ i27 (m3.length:Int)) then
 ((idx m8 i27).bind fun v28 =>
 (idx m3 i27).bind fun v29 =>
 (bY ((m1,[],[],[],[],false,[],[],[]),[]) m7 v28.1 v28.2.1 v28.2.2.1 v28.2.2.2.1 v28.2.2.2.2.1 (v28.2.2.2.2.2.map (Uun 1)) v29.2.1 (v29.2.2.map (Uun 0)) 0 false).bind fun f30 =>
 bif (!eqZ f30 0) then
  ((idx m3 i27).bind fun v31 =>
  some (.inr (.inr (.inr (v31.1,f30)))))
 else
  ((z64 (i27 + 1)).bind fun v32 =>
  some (.inl v32)))
 else
 some (.inr (.inl ()))
def aj.b4 (m1:Bs) (m3:LF) (m7:LF) (m9:LE) (i33:Int):Option ((Int) ⊕ ((Unit) ⊕ (Bs × Int))) :=
 bif (ltZ i33 (m7.length:Int)) then
 ((idx m9 i33).bind fun v34 =>
 (idx m7 i33).bind fun v35 =>
 (bY ((m1,[],[],[],[],false,[],[],[]),[]) m3 v34.1 v34.2.1 v34.2.2.1 v34.2.2.2.1 v34.2.2.2.2.1 (v34.2.2.2.2.2.map (Uun 1)) v35.2.1 (v35.2.2.map (Uun 0)) 0 false).bind fun f36 =>
 bif (!eqZ f36 0) then
  ((idx m7 i33).bind fun v37 =>
  some (.inr (.inr (v37.1,f36))))
 else
  ((z64 (i33 + 1)).bind fun v38 =>
  some (.inl v38)))
 else
 some (.inr (.inl ()))
def aj.j2 (m1:Bs) (m3:LF) (m7:LF) (m9:LE):Option ((Unit) ⊕ (Bs × Int)) :=
 bO (fun x=>aj.b4 m1 m3 m7 m9 x) 0
def aj.b5 (m1:Bs) (m2:LB) (m3:LF) (m4:LE) (m5:LU) (m6:Bool) (m7:LF) (m8:LE) (m9:LE) (faces10:LA) (i39:Int):Option ((Int) ⊕ (Bs × Int)) :=
 bif (ltZ i39 (m5.length:Int)) then
 ((idx m5 i39).bind fun v40 =>
 (cy m1 m2 m3 m4 m5 m6 m7 m8 m9 faces10 (v40.2.2.1.map (Uun 0)) v40.2.2.2.2.2.1 v40.2.2.2.2.2.2.1 v40.2.2.2.2.2.2.2.1 v40.2.2.2.2.2.2.2.2.1 v40.2.2.2.2.2.2.2.2.2.1 (v40.2.2.2.2.2.2.2.2.2.2.map (Uun 1)) v40.2.2.2.1.1 (v40.2.2.2.1.2.map (Uun 0)) v40.2.2.2.2.1 true).bind fun v41 =>
 bif (!eqZ v41 0) then
  some (.inr (v40.1,v41))
 else
  ((z64 (i39 + 1)).bind fun v42 =>
  some (.inl v42)))
 else
 some (.inr (([]:Bs),0))
def aj.j3 (m1:Bs) (m2:LB) (m3:LF) (m4:LE) (m5:LU) (m6:Bool) (m7:LF) (m8:LE) (m9:LE) (faces10:LA):Option (Bs × Int) :=
 bO (fun x=>aj.b5 m1 m2 m3 m4 m5 m6 m7 m8 m9 faces10 x) 0
def aj.j4 (m1:Bs) (m2:LB) (m3:LF) (m4:LE) (m5:LU) (m6:Bool) (m7:LF) (m8:LE) (m9:LE) (faces10:LA):Option (Bs × Int) :=
 ((bif m6 then
 ((bO (fun x=>aj.b3 m1 m3 m7 m8 x) 0).bind fun x=>match x with
 | .inl x =>
  aj.j2 m1 m3 m7 m9
 | .inr r=>some r)
 else
 some (.inl ())):Option ((Unit) ⊕ (Bs × Int))).bind fun x=>match x with
 | .inl x =>
 aj.j3 m1 m2 m3 m4 m5 m6 m7 m8 m9 faces10
 | .inr r=>some r
def aj.j5 (m1:Bs) (m2:LB) (m3:LF) (m4:LE) (m5:LU) (m6:Bool) (m7:LF) (m8:LE) (m9:LE) (faces10:LA):Option (Bs × Int) :=
 (bO (fun x=>aj.b2 m1 m3 m4 x) 0).bind fun x=>match x with
 | .inl x =>
 aj.j4 m1 m2 m3 m4 m5 m6 m7 m8 m9 faces10
 | .inr r=>some r
def aj.j6 (m1:Bs) (m2:LB) (m3:LF) (m4:LE) (m5:LU) (m6:Bool) (m7:LF) (m8:LE) (m9:LE) (faces10:LA) (v13:Bool):Option (Bs × Int) :=
 bif v13 then
 some (([]:Bs),1)
 else
 ((bO (fun x=>aj.b1 m1 m2 faces10 x) 0).bind fun x=>match x with
 | .inl x =>
  aj.j5 m1 m2 m3 m4 m5 m6 m7 m8 m9 faces10
 | .inr r=>some r)
def aj (m1:Bs) (m2:LB) (m3:LF) (m4:LE) (m5:LU) (m6:Bool) (m7:LF) (m8:LE) (m9:LE) (faces10:LA):Option (Bs × Int) :=
 (bz m1 m2 m3 m4 m5 m6 m7 m8 m9).bind fun r11 =>
 (bif (!r11) then
 some true
 else
 ((aI faces10).bind fun r12 =>
 some (!r12))).bind fun x =>
 aj.j6 m1 m2 m3 m4 m5 m6 m7 m8 m9 faces10 x
def cz.j1 (m3:df) (faces4:LA) (locals5:LF) (e6:dS) (s7:Bool) (v26:Bool):Option Bool :=
 bif v26 then
 some false
 else
 ((dA m3.1 m3.2.1 (m3.2.2.1.map (Uun 0)) (m3.2.2.2.1.map (Uun 1)) m3.2.2.2.2.1 m3.2.2.2.2.2.1 (m3.2.2.2.2.2.2.1.map (Uun 0)) (m3.2.2.2.2.2.2.2.1.map (Uun 1)) (m3.2.2.2.2.2.2.2.2.map (Uun 1)) faces4 locals5 e6.1 e6.2.1 e6.2.2.1 e6.2.2.2.1 e6.2.2.2.2.1 (e6.2.2.2.2.2.map (Uun 1))).bind fun v27 =>
 (cj m3.1 m3.2.1 (m3.2.2.1.map (Uun 0)) (m3.2.2.2.1.map (Uun 1)) m3.2.2.2.2.1 m3.2.2.2.2.2.1 (m3.2.2.2.2.2.2.1.map (Uun 0)) (m3.2.2.2.2.2.2.2.1.map (Uun 1)) (m3.2.2.2.2.2.2.2.2.map (Uun 1)) faces4 locals5 e6.1 e6.2.1 e6.2.2.1 e6.2.2.2.1 e6.2.2.2.2.1 (e6.2.2.2.2.2.map (Uun 1))).bind fun t28 =>
 (b8 m3.1 m3.2.1 (m3.2.2.1.map (Uun 0)) (m3.2.2.2.1.map (Uun 1)) m3.2.2.2.2.1 m3.2.2.2.2.2.1 (m3.2.2.2.2.2.2.1.map (Uun 0)) (m3.2.2.2.2.2.2.2.1.map (Uun 1)) (m3.2.2.2.2.2.2.2.2.map (Uun 1)) faces4).bind fun v29 =>
 (aj m3.1 m3.2.1 (m3.2.2.1.map (Uun 0)) (m3.2.2.2.1.map (Uun 1)) m3.2.2.2.2.1 m3.2.2.2.2.2.1 (m3.2.2.2.2.2.2.1.map (Uun 0)) (m3.2.2.2.2.2.2.2.1.map (Uun 1)) (m3.2.2.2.2.2.2.2.2.map (Uun 1)) faces4).bind fun c30 =>
 bif s7 then
  (bif (eqZ v27.2.2 t28.2.2) then
  (bif (eqZ v27.2.1 t28.2.1) then
   ((cX v27.1.1 (v27.1.2.map (Uun 0)) t28.1.1 (t28.1.2.map (Uun 0))).bind fun s31 =>
   bif s31 then
   (bif (decide (v29.1 = c30.1)) then
    some (eqZ v29.2 c30.2)
   else
    some false)
   else
   some false)
  else
   some false)
  else
  some false)
 else
  some false)
def cz.j2 (a1:aK) (b2:aK) (m3:df) (faces4:LA) (locals5:LF) (e6:dS) (s7:Bool) (v13:Bool):Option Bool :=
 bif v13 then
 some s7
 else
 ((eb a1.1 (a1.2.map (Uun 0)) b2.1 (b2.2.map (Uun 0))).bind fun m14 =>
 (dj a1.1 (a1.2.map (Uun 0)) b2.1 (b2.2.map (Uun 0))).bind fun m15 =>
 (eU a1.1 (a1.2.map (Uun 0)) b2.1 (b2.2.map (Uun 0))).bind fun j16 =>
 (dK a1.1 (a1.2.map (Uun 0)) b2.1 (b2.2.map (Uun 0))).bind fun j17 =>
 ((bI a1.1 (a1.2.map (Uun 0))).bind fun r18 =>
 (aN a1.1 (a1.2.map (Uun 0))).bind fun r19 =>
 bif (!(r18 == r19)) then
  some true
 else
  ((iG a1.1 (a1.2.map (Uun 0)) b2.1 (b2.2.map (Uun 0))).bind fun s20 =>
  (eR a1.1 (a1.2.map (Uun 0)) b2.1 (b2.2.map (Uun 0))).bind fun s21 =>
  bif (!(s20 == s21)) then
  some true
  else
  ((gu a1.1 (a1.2.map (Uun 0)) b2.1 (b2.2.map (Uun 0))).bind fun s22 =>
  (fg a1.1 (a1.2.map (Uun 0)) b2.1 (b2.2.map (Uun 0))).bind fun s23 =>
  bif (!(s22 == s23)) then
   some true
  else
   (bif (!(m14.2 == m15.2)) then
   some true
   else
   (bif (!(j16.2 == j17.2)) then
    some true
   else
    ((cX m14.1.1 (m14.1.2.map (Uun 0)) m15.1.1 (m15.1.2.map (Uun 0))).bind fun s24 =>
    bif (!s24) then
    some true
    else
    ((cX j16.1.1 (j16.1.2.map (Uun 0)) j17.1.1 (j17.1.2.map (Uun 0))).bind fun s25 =>
    some (!s25)))))))).bind fun x =>
 cz.j1 m3 faces4 locals5 e6 s7 x)
def cz (a1:aK) (b2:aK) (m3:df) (faces4:LA) (locals5:LF) (e6:dS):Option Bool :=
 (eV).bind fun s7 =>
 ((bL ([(a1.1,((a1.2.map (Uun 0)).map (Umk 0))),(b2.1,((b2.2.map (Uun 0)).map (Umk 0)))]:LT)).bind fun l8 =>
 bif (!l8) then
 some true
 else
 ((bq m3.1 m3.2.1 (m3.2.2.1.map (Uun 0)) (m3.2.2.2.1.map (Uun 1)) m3.2.2.2.2.1 m3.2.2.2.2.2.1 (m3.2.2.2.2.2.2.1.map (Uun 0)) (m3.2.2.2.2.2.2.2.1.map (Uun 1)) (m3.2.2.2.2.2.2.2.2.map (Uun 1))).bind fun m9 =>
 bif (!m9) then
  some true
 else
  ((aU faces4).bind fun s10 =>
  bif (!s10) then
  some true
  else
  ((bp locals5).bind fun f11 =>
  bif (!f11) then
   some true
  else
   ((bU ([(e6.1,e6.2.1,e6.2.2.1,e6.2.2.2.1,e6.2.2.2.2.1,((e6.2.2.2.2.2.map (Uun 1)).map (Umk 1)))]:LE)).bind fun e12 =>
   some (!e12)))))).bind fun x =>
 cz.j2 a1 b2 m3 faces4 locals5 e6 s7 x
end
end Go.Proofs.YtaocfjifacnokaaGreat
