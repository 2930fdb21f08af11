import Derived.Test.YtaocfjifacnokaaE5
import Derived.Test.YtaocfjifacnokaaE6
import Derived.Test.YtaocfjifacnokaaProg
import Derived.KernelRfl
namespace Go.Proofs.Ytaocfjifacnokaa
open Go.Lad
set_option linter.unusedVariables false
abbrev GType:Type:=Int × List FieldT
abbrev GField:Type:=Bs × GType
abbrev GExp:Type:=Int × Int × Bs × Bs × (List Bs) × List ExpT
abbrev GFunc:Type:=Bs × Bool × (List FieldT) × GType × Int × GExp
abbrev GMigration:Type:=(List FieldT) × (List ExpT) × List ExpT
abbrev GModule:Type:=Bs × (List Bs) × (List FieldT) × (List ExpT) × (List GFunc) × Bool × GMigration
abbrev GSig:Type:=Bs × (List GType) × GType × Int
abbrev GFace:Type:=Bs × List GSig
noncomputable def ladinglaw16_rec [Fuel] (l1:List GField):Option GType :=
 some (2,(l1.map (Umk 0)))
noncomputable def lex_letter [Fuel] (c1:Int):Option Bool :=
 bif (leZ 97 c1) then
 some (leZ c1 122)
 else
 some false
noncomputable def lex_digit [Fuel] (c1:Int):Option Bool :=
 bif (leZ 48 c1) then
 some (leZ c1 57)
 else
 some false
noncomputable def lex_Word_1 [Fuel] (c1:Int):Option Bool :=
 (lex_letter c1).bind fun l2 =>
 bif l2 then
 some true
 else
 ((lex_digit c1).bind fun d3 =>
 some d3)
noncomputable def lex_span.j1 [Fuel] (n2:Int) (v5:Bool):Option ((Int) ⊕ (Int)) :=
 bif v5 then
 ((z64 (n2 + 1)).bind fun v6 =>
 some (.inl v6))
 else
 some (.inr n2)
noncomputable def lex_span.b1 [Fuel] (s1:Bs) (n2:Int):Option ((Int) ⊕ (Int)) :=
 (bif (ltZ n2 (s1.length:Int)) then
 ((bAt s1 n2).bind fun c3 =>
 (lex_Word_1 c3).bind fun v'4 =>
 some v'4)
 else
 some false).bind fun x =>
 lex_span.j1 n2 x
noncomputable def lex_span [Fuel] (s1:Bs):Option Int :=
 loopF (fun x=>lex_span.b1 s1 x) 0
noncomputable def lex_Word.j1 [Fuel] (s1:Bs) (v4:Bool):Option Bool :=
 bif v4 then
 some false
 else
 ((lex_span s1).bind fun s5 =>
 some (eqZ s5 (s1.length:Int)))
noncomputable def lex_Word [Fuel] (s1:Bs):Option Bool :=
 (bif (decide (s1 = ([]:Bs))) then
 some true
 else
 ((bAt s1 0).bind fun c2 =>
 (lex_letter c2).bind fun l3 =>
 bif (!l3) then
  some true
 else
  some (ltZ 20 (s1.length:Int)))).bind fun x =>
 lex_Word.j1 s1 x
noncomputable def strings_Contains [Fuel] (s:Bs) (sub:Bs):Option Bool:=containsF s sub
noncomputable def syntax_Name [Fuel] (s1:Bs):Option Bool :=
 (lex_Word s1).bind fun w2 =>
 bif w2 then
 ((cat? ([32]:Bs) s1).bind fun s3 =>
 (cat? s3 ([32]:Bs)).bind fun s4 =>
 (strings_Contains ([32,97,110,100,32,98,97,99,107,32,98,111,111,108,32,99,108,111,99,107,32,101,108,115,101,32,102,97,108,115,101,32,102,105,108,101,115,32,102,110,32,102,111,114,119,97,114,100,32,103,101,116,32,105,102,32,105,110,32,105,110,116,32,108,101,116,32,109,111,100,117,108,101,32,109,111,118,101,32,110,101,116,32,110,111,116,32,111,114,32,112,117,98,32,115,101,99,114,101,116,115,32,115,101,116,32,116,104,101,110,32,116,114,117,101,32,117,115,101,32,118,97,114,32]:Bs) s4).bind fun c5 =>
 some (!c5))
 else
 some false
noncomputable def syntax_rightType.j1 [Fuel] (v5:Int) (v14:Bool):Option ((Int) ⊕ (Bool)) :=
 bif v14 then
 some (.inr false)
 else
 ((z64 (v5 + 1)).bind fun v15 =>
 some (.inl v15))
noncomputable def syntax_rightType.b1 [Fuel] (Gr:Int → List GField → Int → Option Bool) (t2:List GField) (depth3:Int) (v5:Int):Option ((Int) ⊕ (Bool)) :=
 bif (ltZ v5 (t2.length:Int)) then
 ((idx t2 v5).bind fun v6 =>
 ((syntax_Name v6.1).bind fun n7 =>
 bif (!n7) then
  some true
 else
  (bif (ltZ 0 v5) then
  ((z64 (v5 - 1)).bind fun v8 =>
  (idx t2 v8).bind fun v9 =>
  bif (Op.bytesLess v6.1 v9.1 || decide (v6.1 = v9.1)) then
   some true
  else
   ((z64 (depth3 - 1)).bind fun v10 =>
   (Gr v6.2.1 (v6.2.2.map (Uun 0)) v10).bind fun r11 =>
   some (!r11)))
  else
  ((z64 (depth3 - 1)).bind fun v12 =>
  (Gr v6.2.1 (v6.2.2.map (Uun 0)) v12).bind fun r13 =>
  some (!r13)))).bind fun x =>
 syntax_rightType.j1 v5 x)
 else
 some (.inr true)
noncomputable def syntax_rightType.j2 [Fuel] (Gr:Int → List GField → Int → Option Bool) (t2:List GField) (depth3:Int) (v4:Bool):Option Bool :=
 bif v4 then
 some false
 else
 (loopF (fun x=>syntax_rightType.b1 Gr t2 depth3 x) 0)
noncomputable def syntax_rightType.body [Fuel] (Gr:Int → List GField → Int → Option Bool) (t1:Int) (t2:List GField) (depth3:Int):Option Bool :=
 (bif (eqZ depth3 0) then
 some true
 else
 (bif (ltZ t1 0) then
  some true
 else
  (bif (leZ 3 t1) then
  some true
  else
  (bif (ltZ 8 (t2.length:Int)) then
   some true
  else
   (bif (!eqZ t1 2) then
   some (ltZ 0 (t2.length:Int))
   else
   some false))))).bind fun x =>
 syntax_rightType.j2 Gr t2 depth3 x
noncomputable def syntax_rightType.rec [Fuel]:Nat → Int → List GField → Int → Option Bool
 | 0=>fun _ _ _=>none
 | n + 1=>syntax_rightType.body (syntax_rightType.rec n)
noncomputable def syntax_rightType [Fuel] (t1:Int) (t2:List GField) (depth3:Int):Option Bool:=syntax_rightType.rec Fuel.n t1 t2 depth3
noncomputable def syntax_RightType [Fuel] (t1:Int) (t2:List GField):Option Bool :=
 (syntax_rightType t1 t2 4).bind fun r3 =>
 some r3
noncomputable def types_Right [Fuel] (t1:Int) (t2:List GField):Option Bool :=
 (syntax_RightType t1 t2).bind fun r3 =>
 some r3
noncomputable def slices_Backward_api_Field_api_Field [Fuel] (s1:List GField):Option (List GField) :=
 some s1
noncomputable def types_lookup.r1 [Fuel] (name2:Bs) (i4:Int) (f5:GField):Option ((Unit) ⊕ (GType × Bool)) :=
 bif (decide (f5.1 = name2)) then
 some (.inr ((f5.2.1,((f5.2.2.map (Uun 0)).map (Umk 0))),true))
 else
 some (.inl ())
noncomputable def types_lookup.j1 [Fuel]:Option (GType × Bool) :=
 some ((0,[]),false)
noncomputable def types_lookup [Fuel] (l1:List GField) (name2:Bs):Option (GType × Bool) :=
 (slices_Backward_api_Field_api_Field l1).bind fun f3 =>
 (backF f3).bind fun xs6 =>
 (foldR (fun _ r x=>types_lookup.r1 name2 r.1 r.2) 0 xs6 ()).bind fun x=>match x with
 | .inl x =>
 types_lookup.j1
 | .inr r=>some r
noncomputable def types_upper.b1 [Fuel] (Gr:Int → List GField → Int → List GField → Option (GType × Bool)) (a2:List GField) (b4:List GField) (v5:Int) (out6:Int) (v7:List GField):Option ((Int × Int × List GField) ⊕ (GType × Bool)) :=
 bif (ltZ v5 (a2.length:Int)) then
 ((idx a2 v5).bind fun v8 =>
 (types_lookup b4 v8.1).bind fun l9 =>
 bif l9.2 then
  ((Gr v8.2.1 (v8.2.2.map (Uun 0)) l9.1.1 (l9.1.2.map (Uun 0))).bind fun u10 =>
  bif u10.2 then
  ((app? v7 ([(v8.1,u10.1.1,((u10.1.2.map (Uun 0)).map (Umk 0)))]:List GField)).bind fun l11 =>
  (z64 (v5 + 1)).bind fun v12 =>
  some (.inl (v12,out6,l11)))
  else
  ((z64 (v5 + 1)).bind fun v13 =>
  some (.inl (v13,out6,v7))))
 else
  ((z64 (v5 + 1)).bind fun v14 =>
  some (.inl (v14,out6,v7))))
 else
 some (.inr ((out6,(v7.map (Umk 0))),true))
noncomputable def types_upper.body [Fuel] (Gr:Int → List GField → Int → List GField → Option (GType × Bool)) (a1:Int) (a2:List GField) (b3:Int) (b4:List GField):Option (GType × Bool) :=
 bif (!eqZ a1 b3) then
 some ((0,[]),false)
 else
 (loopF (fun x=>types_upper.b1 Gr a2 b4 x.1 x.2.1 x.2.2) (0,a1,[]))
noncomputable def types_upper.rec [Fuel]:Nat → Int → List GField → Int → List GField → Option (GType × Bool)
 | 0=>fun _ _ _ _=>none
 | n + 1=>types_upper.body (types_upper.rec n)
noncomputable def types_upper [Fuel] (a1:Int) (a2:List GField) (b3:Int) (b4:List GField):Option (GType × Bool):=types_upper.rec Fuel.n a1 a2 b3 b4
noncomputable def types_Join.j1 [Fuel] (a1:Int) (a2:List GField) (b3:Int) (b4:List GField) (v7:Bool):Option (GType × Bool) :=
 bif v7 then
 some ((0,[]),false)
 else
 ((types_upper a1 a2 b3 b4).bind fun u8 =>
 some ((u8.1.1,((u8.1.2.map (Uun 0)).map (Umk 0))),u8.2))
noncomputable def types_Join [Fuel] (a1:Int) (a2:List GField) (b3:Int) (b4:List GField):Option (GType × Bool) :=
 ((types_Right a1 a2).bind fun r5 =>
 bif (!r5) then
 some true
 else
 ((types_Right b3 b4).bind fun r6 =>
 some (!r6))).bind fun x =>
 types_Join.j1 a1 a2 b3 b4 x
noncomputable def types_fresh_v2.b1 [Fuel] (Gr:Int → List GField → Option GType) (t2:List GField) (v3:Int) (out4:Int) (v5:List GField):Option ((Int × Int × List GField) ⊕ (GType)) :=
 bif (ltZ v3 (t2.length:Int)) then
 ((idx t2 v3).bind fun v6 =>
 (Gr v6.2.1 (v6.2.2.map (Uun 0))).bind fun v7 =>
 (app? v5 ([(v6.1,v7.1,((v7.2.map (Uun 0)).map (Umk 0)))]:List GField)).bind fun l8 =>
 (z64 (v3 + 1)).bind fun v9 =>
 some (.inl (v9,out4,l8)))
 else
 some (.inr (out4,(v5.map (Umk 0))))
noncomputable def types_fresh_v2.body [Fuel] (Gr:Int → List GField → Option GType) (t1:Int) (t2:List GField):Option GType :=
 loopF (fun x=>types_fresh_v2.b1 Gr t2 x.1 x.2.1 x.2.2) (0,t1,[])
noncomputable def types_fresh_v2.rec [Fuel]:Nat → Int → List GField → Option GType
 | 0=>fun _ _=>none
 | n + 1=>types_fresh_v2.body (types_fresh_v2.rec n)
noncomputable def types_fresh_v2 [Fuel] (t1:Int) (t2:List GField):Option GType:=types_fresh_v2.rec Fuel.n t1 t2
noncomputable def types_fresh.b1 [Fuel] (t2:List GField) (v3:Int) (out4:Int) (v5:List GField):Option ((Int × Int × List GField) ⊕ (Int × List GField)) :=
 bif (ltZ v3 (t2.length:Int)) then
 ((idx t2 v3).bind fun v6 =>
 (types_fresh_v2 v6.2.1 (v6.2.2.map (Uun 0))).bind fun v7 =>
 (app? v5 ([(v6.1,v7.1,((v7.2.map (Uun 0)).map (Umk 0)))]:List GField)).bind fun l8 =>
 (z64 (v3 + 1)).bind fun v9 =>
 some (.inl (v9,out4,l8)))
 else
 some (.inr (out4,v5))
noncomputable def types_fresh [Fuel] (t1:Int) (t2:List GField):Option (Int × List GField) :=
 loopF (fun x=>types_fresh.b1 t2 x.1 x.2.1 x.2.2) (0,t1,[])
noncomputable def types_lower_1 [Fuel] (x1:Bs) (x2:Int) (x3:List GField) (s4:Bs):Option Int :=
 bif (Op.bytesLess x1 s4) then
 some (-1)
 else
 (bif (!(Op.bytesLess x1 s4 || decide (x1 = s4))) then
  some 1
 else
  some 0)
noncomputable def slices_BinarySearchFunc_api_Field_api_Field_string.b1 [Fuel] (x1:List GField) (target2:Bs) (i3:Int) (j4:Int):Option ((Int × Int) ⊕ (Int)) :=
 bif (ltZ i3 j4) then
 ((z64 (i3 + j4)).bind fun v5 =>
 (shrZ .u64 (IntKind.u64.wrap v5) 1).bind fun v6 =>
 (idx x1 (IntKind.i64.wrap v6)).bind fun v7 =>
 (types_lower_1 v7.1 v7.2.1 (v7.2.2.map (Uun 0)) target2).bind fun v'8 =>
 bif (ltZ v'8 0) then
  ((z64 ((IntKind.i64.wrap v6) + 1)).bind fun v9 =>
  some (.inl (v9,j4)))
 else
  some (.inl (i3,(IntKind.i64.wrap v6))))
 else
 some (.inr i3)
noncomputable def slices_BinarySearchFunc_api_Field_api_Field_string.j1 [Fuel] (x1:List GField) (target2:Bs) (i10:Int):Option (Int × Bool) :=
 bif (ltZ i10 (x1.length:Int)) then
 ((idx x1 i10).bind fun v11 =>
 (types_lower_1 v11.1 v11.2.1 (v11.2.2.map (Uun 0)) target2).bind fun v'12 =>
 some (i10,(eqZ v'12 0)))
 else
 some (i10,false)
noncomputable def slices_BinarySearchFunc_api_Field_api_Field_string [Fuel] (x1:List GField) (target2:Bs):Option (Int × Bool) :=
 (loopF (fun x=>slices_BinarySearchFunc_api_Field_api_Field_string.b1 x1 target2 x.1 x.2) (0,(x1.length:Int))).bind fun x =>
 slices_BinarySearchFunc_api_Field_api_Field_string.j1 x1 target2 x
noncomputable def slices_Insert_Field [Fuel] (i:Int) (v l:List (GField)):Option (List (GField)):=insF i v l
noncomputable def types_lower.b1 [Fuel] (Gr:Int → List GField → Int → List GField → Option (GType × Bool)) (b4:List GField) (v6:Int) (out7:Int) (v8:List GField):Option ((Int × Int × List GField) ⊕ (GType × Bool)) :=
 bif (ltZ v6 (b4.length:Int)) then
 ((idx b4 v6).bind fun v9 =>
 (slices_BinarySearchFunc_api_Field_api_Field_string v8 v9.1).bind fun s10 =>
 bif (!s10.2) then
  ((types_fresh_v2 v9.2.1 (v9.2.2.map (Uun 0))).bind fun v11 =>
  (slices_Insert_Field s10.1 ([(v9.1,v11.1,((v11.2.map (Uun 0)).map (Umk 0)))]:List GField) v8).bind fun f12 =>
  (z64 (v6 + 1)).bind fun v13 =>
  some (.inl (v13,out7,f12)))
 else
  ((idx v8 s10.1).bind fun _14 =>
  (idx v8 s10.1).bind fun v15 =>
  (Gr v15.2.1 (v15.2.2.map (Uun 0)) v9.2.1 (v9.2.2.map (Uun 0))).bind fun l16 =>
  bif (!l16.2) then
  some (.inr ((0,[]),false))
  else
  ((idx v8 s10.1).bind fun _17 =>
  (idx v8 s10.1).bind fun v18 =>
  (z64 (v6 + 1)).bind fun v19 =>
  some (.inl (v19,out7,(v8.set s10.1.toNat (v18.1,l16.1.1,((l16.1.2.map (Uun 0)).map (Umk 0)))))))))
 else
 some (.inr ((out7,(v8.map (Umk 0))),true))
noncomputable def types_lower.body [Fuel] (Gr:Int → List GField → Int → List GField → Option (GType × Bool)) (a1:Int) (a2:List GField) (b3:Int) (b4:List GField):Option (GType × Bool) :=
 bif (!eqZ a1 b3) then
 some ((0,[]),false)
 else
 ((types_fresh a1 a2).bind fun f5 =>
 loopF (fun x=>types_lower.b1 Gr b4 x.1 x.2.1 x.2.2) (0,f5.1,f5.2))
noncomputable def types_lower.rec [Fuel]:Nat → Int → List GField → Int → List GField → Option (GType × Bool)
 | 0=>fun _ _ _ _=>none
 | n + 1=>types_lower.body (types_lower.rec n)
noncomputable def types_lower [Fuel] (a1:Int) (a2:List GField) (b3:Int) (b4:List GField):Option (GType × Bool):=types_lower.rec Fuel.n a1 a2 b3 b4
noncomputable def types_Meet.j1 [Fuel] (l8:GType × Bool) (v10:Bool):Option (GType × Bool) :=
 bif v10 then
 some ((0,[]),false)
 else
 some ((l8.1.1,((l8.1.2.map (Uun 0)).map (Umk 0))),true)
noncomputable def types_Meet.j2 [Fuel] (a1:Int) (a2:List GField) (b3:Int) (b4:List GField) (v7:Bool):Option (GType × Bool) :=
 bif v7 then
 some ((0,[]),false)
 else
 ((types_lower a1 a2 b3 b4).bind fun l8 =>
 (bif (!l8.2) then
  some true
 else
  ((types_Right l8.1.1 (l8.1.2.map (Uun 0))).bind fun r9 =>
  some (!r9))).bind fun x =>
 types_Meet.j1 l8 x)
noncomputable def types_Meet [Fuel] (a1:Int) (a2:List GField) (b3:Int) (b4:List GField):Option (GType × Bool) :=
 ((types_Right a1 a2).bind fun r5 =>
 bif (!r5) then
 some true
 else
 ((types_Right b3 b4).bind fun r6 =>
 some (!r6))).bind fun x =>
 types_Meet.j2 a1 a2 b3 b4 x
noncomputable def ladinglaw16_num [Fuel] (n1:Int):Option GExp :=
 some (0,n1,([]:Bs),([]:Bs),[],[])
noncomputable def types_TypeOf_1 [Fuel] (f1:Bs) (f2:Int) (f3:List GField):Option Bool :=
 (types_Right f2 f3).bind fun r4 =>
 some (!r4)
noncomputable def slices_IndexFunc_api_Field_api_Field.b1 [Fuel] (s1:List GField) (v2:Int):Option ((Int) ⊕ (Int)) :=
 bif (ltZ v2 (s1.length:Int)) then
 ((idx s1 v2).bind fun v3 =>
 (types_TypeOf_1 v3.1 v3.2.1 (v3.2.2.map (Uun 0))).bind fun v'4 =>
 bif v'4 then
  some (.inr v2)
 else
  ((z64 (v2 + 1)).bind fun v5 =>
  some (.inl v5)))
 else
 some (.inr (-1))
noncomputable def slices_IndexFunc_api_Field_api_Field [Fuel] (s1:List GField):Option Int :=
 loopF (fun x=>slices_IndexFunc_api_Field_api_Field.b1 s1 x) 0
noncomputable def slices_ContainsFunc_api_Field_api_Field [Fuel] (s1:List GField):Option Bool :=
 (slices_IndexFunc_api_Field_api_Field s1).bind fun f2 =>
 some (leZ 0 f2)
noncomputable def syntax_clean.j1 [Fuel] (e1:Int) (e2:Int) (e3:Bs) (e4:Bs) (e5:List Bs) (e6:List GExp) (v9:Bool):Option (GExp × Int) :=
 bif v9 then
 some ((e1,0,e3,([]:Bs),[],(e6.map (Umk 1))),1)
 else
 (bif (eqZ e1 16) then
  some ((e1,e2,([]:Bs),([]:Bs),[],(e6.map (Umk 1))),1)
 else
  (bif (eqZ e1 10) then
  some ((e1,0,([]:Bs),([]:Bs),[],(e6.map (Umk 1))),1)
  else
  (bif (eqZ e1 12) then
   some ((e1,0,e3,([]:Bs),[],(e6.map (Umk 1))),2)
  else
   (bif (eqZ e1 11) then
   some ((e1,0,([]:Bs),([]:Bs),[],(e6.map (Umk 1))),3)
   else
   (bif (eqZ e1 13) then
    some ((e1,0,([]:Bs),([]:Bs),e5,(e6.map (Umk 1))),(e5.length:Int))
   else
    (bif (eqZ e1 15) then
    some ((e1,0,e3,e4,[],(e6.map (Umk 1))),(-1))
    else
    some ((e1,0,([]:Bs),([]:Bs),[],(e6.map (Umk 1))),2)))))))
noncomputable def syntax_clean.j2 [Fuel] (e1:Int) (e2:Int) (e3:Bs) (e4:Bs) (e5:List Bs) (e6:List GExp) (v8:Bool):Option (GExp × Int) :=
 bif v8 then
 some ((e1,0,e3,([]:Bs),[],(e6.map (Umk 1))),0)
 else
 ((bif (eqZ e1 18) then
  some (eqZ e1 18)
 else
  some (eqZ e1 14)).bind fun x =>
 syntax_clean.j1 e1 e2 e3 e4 e5 e6 x)
noncomputable def syntax_clean.j3 [Fuel] (e1:Int) (e2:Int) (e3:Bs) (e4:Bs) (e5:List Bs) (e6:List GExp) (v7:Bool):Option (GExp × Int) :=
 bif v7 then
 some ((e1,e2,([]:Bs),([]:Bs),[],(e6.map (Umk 1))),0)
 else
 ((bif (eqZ e1 2) then
  some (eqZ e1 2)
 else
  some (eqZ e1 17)).bind fun x =>
 syntax_clean.j2 e1 e2 e3 e4 e5 e6 x)
noncomputable def syntax_clean [Fuel] (e1:Int) (e2:Int) (e3:Bs) (e4:Bs) (e5:List Bs) (e6:List GExp):Option (GExp × Int) :=
 (bif (eqZ e1 0) then
 some (eqZ e1 0)
 else
 some (eqZ e1 1)).bind fun x =>
 syntax_clean.j3 e1 e2 e3 e4 e5 e6 x
noncomputable def syntax_leaf.j1 [Fuel] (v11:Int) (v16:Bool):Option ((Int) ⊕ (Bool)) :=
 bif v16 then
 some (.inr false)
 else
 ((z64 (v11 + 1)).bind fun v17 =>
 some (.inl v17))
noncomputable def syntax_leaf.b1 [Fuel] (e5:List Bs) (v11:Int):Option ((Int) ⊕ (Bool)) :=
 bif (ltZ v11 (e5.length:Int)) then
 ((idx e5 v11).bind fun v12 =>
 ((syntax_Name v12).bind fun n13 =>
 bif (!n13) then
  some true
 else
  (bif (ltZ 0 v11) then
  ((z64 (v11 - 1)).bind fun v14 =>
  (idx e5 v14).bind fun v15 =>
  some (Op.bytesLess v12 v15 || decide (v12 = v15)))
  else
  some false)).bind fun x =>
 syntax_leaf.j1 v11 x)
 else
 some (.inr (leZ (e5.length:Int) 8))
noncomputable def syntax_leaf.j2 [Fuel] (e1:Int) (e3:Bs) (e4:Bs) (e5:List Bs) (e6:List GExp) (v7:Bool):Option Bool :=
 bif v7 then
 ((syntax_Name e3).bind fun n8 =>
 some n8)
 else
 (bif (eqZ e1 15) then
  ((syntax_Name e3).bind fun n9 =>
  bif n9 then
  (bif (decide (e4 = ([]:Bs))) then
   some (leZ (e6.length:Int) 6)
  else
   ((syntax_Name e4).bind fun n10 =>
   bif n10 then
   some (leZ (e6.length:Int) 6)
   else
   some false))
  else
  some false)
 else
  (bif (eqZ e1 13) then
  (loopF (fun x=>syntax_leaf.b1 e5 x) 0)
  else
  some true))
noncomputable def syntax_leaf [Fuel] (e1:Int) (e2:Int) (e3:Bs) (e4:Bs) (e5:List Bs) (e6:List GExp):Option Bool :=
 bif (eqZ e1 0) then
 (bif (leZ 0 e2) then
  some (leZ e2 1099511627776)
 else
  some false)
 else
 (bif (eqZ e1 1) then
  (bif (eqZ e2 0) then
  some true
  else
  some (eqZ e2 1))
 else
  (bif (eqZ e1 16) then
  (bif (eqZ e2 1) then
   some true
  else
   (bif (eqZ e2 2) then
   some true
   else
   (bif (eqZ e2 4) then
    some true
   else
    some (eqZ e2 8))))
  else
  ((bif (eqZ e1 2) then
   some (eqZ e1 2)
  else
   (bif (eqZ e1 17) then
   some (eqZ e1 17)
   else
   (bif (eqZ e1 18) then
    some (eqZ e1 18)
   else
    (bif (eqZ e1 14) then
    some (eqZ e1 14)
    else
    some (eqZ e1 12))))).bind fun x =>
  syntax_leaf.j2 e1 e3 e4 e5 e6 x)))
noncomputable def syntax_rightExp.b1 [Fuel] (Gr:Int → Int → Bs → Bs → List Bs → List GExp → Int → Option Bool) (e6:List GExp) (depth7:Int) (v13:Int):Option ((Int) ⊕ (Bool)) :=
 bif (ltZ v13 (e6.length:Int)) then
 ((idx e6 v13).bind fun v14 =>
 (z64 (depth7 - 1)).bind fun v15 =>
 (Gr v14.1 v14.2.1 v14.2.2.1 v14.2.2.2.1 v14.2.2.2.2.1 (v14.2.2.2.2.2.map (Uun 1)) v15).bind fun r16 =>
 bif (!r16) then
  some (.inr false)
 else
  ((z64 (v13 + 1)).bind fun v17 =>
  some (.inl v17)))
 else
 some (.inr true)
noncomputable def syntax_rightExp.j1 [Fuel] (Gr:Int → Int → Bs → Bs → List Bs → List GExp → Int → Option Bool) (e6:List GExp) (depth7:Int) (v12:Bool):Option Bool :=
 bif v12 then
 some false
 else
 (loopF (fun x=>syntax_rightExp.b1 Gr e6 depth7 x) 0)
noncomputable def syntax_rightExp.j2 [Fuel] (Gr:Int → Int → Bs → Bs → List Bs → List GExp → Int → Option Bool) (e1:Int) (e2:Int) (e3:Bs) (e4:Bs) (e5:List Bs) (e6:List GExp) (depth7:Int) (v8:Bool):Option Bool :=
 bif v8 then
 some false
 else
 ((syntax_clean e1 e2 e3 e4 e5 e6).bind fun c9 =>
 (bif (leZ 0 c9.2) then
  (bif (!eqZ c9.2 (e6.length:Int)) then
  some true
  else
  (bif (!eqZ c9.1.2.1 e2) then
   some true
  else
   (bif (!decide (c9.1.2.2.1 = e3)) then
   some true
   else
   (bif (!decide (c9.1.2.2.2.1 = e4)) then
    some true
   else
    (bif (!eqZ (c9.1.2.2.2.2.1.length:Int) (e5.length:Int)) then
    some true
    else
    ((syntax_leaf e1 e2 e3 e4 e5 e6).bind fun l10 =>
    some (!l10)))))))
 else
  (bif (!eqZ c9.1.2.1 e2) then
  some true
  else
  (bif (!decide (c9.1.2.2.1 = e3)) then
   some true
  else
   (bif (!decide (c9.1.2.2.2.1 = e4)) then
   some true
   else
   (bif (!eqZ (c9.1.2.2.2.2.1.length:Int) (e5.length:Int)) then
    some true
   else
    ((syntax_leaf e1 e2 e3 e4 e5 e6).bind fun l11 =>
    some (!l11))))))).bind fun x =>
 syntax_rightExp.j1 Gr e6 depth7 x)
noncomputable def syntax_rightExp.body [Fuel] (Gr:Int → Int → Bs → Bs → List Bs → List GExp → Int → Option Bool) (e1:Int) (e2:Int) (e3:Bs) (e4:Bs) (e5:List Bs) (e6:List GExp) (depth7:Int):Option Bool :=
 (bif (eqZ depth7 0) then
 some true
 else
 (bif (ltZ e1 0) then
  some true
 else
  some (leZ 19 e1))).bind fun x =>
 syntax_rightExp.j2 Gr e1 e2 e3 e4 e5 e6 depth7 x
noncomputable def syntax_rightExp.rec [Fuel]:Nat → Int → Int → Bs → Bs → List Bs → List GExp → Int → Option Bool
 | 0=>fun _ _ _ _ _ _ _=>none
 | n + 1=>syntax_rightExp.body (syntax_rightExp.rec n)
noncomputable def syntax_rightExp [Fuel] (e1:Int) (e2:Int) (e3:Bs) (e4:Bs) (e5:List Bs) (e6:List GExp) (depth7:Int):Option Bool:=syntax_rightExp.rec Fuel.n e1 e2 e3 e4 e5 e6 depth7
noncomputable def syntax_RightExp [Fuel] (e1:Int) (e2:Int) (e3:Bs) (e4:Bs) (e5:List Bs) (e6:List GExp):Option Bool :=
 (syntax_rightExp e1 e2 e3 e4 e5 e6 12).bind fun r7 =>
 some r7
noncomputable def syntax_rightFields.j1 [Fuel] (v3:Int) (known4:List (Bs × Bool)) (v5:GField) (v8:Bool):Option ((Int × List (Bs × Bool)) ⊕ (Bool)) :=
 bif v8 then
 some (.inr false)
 else
 ((z64 (v3 + 1)).bind fun v9 =>
 some (.inl (v9,(putM known4 v5.1 true))))
noncomputable def syntax_rightFields.b1 [Fuel] (l1:List GField) (most2:Int) (v3:Int) (known4:List (Bs × Bool)):Option ((Int × List (Bs × Bool)) ⊕ (Bool)) :=
 bif (ltZ v3 (l1.length:Int)) then
 ((idx l1 v3).bind fun v5 =>
 (bif ((lookM known4 v5.1).getD false) then
  some true
 else
  ((syntax_Name v5.1).bind fun n6 =>
  bif (!n6) then
  some true
  else
  ((syntax_RightType v5.2.1 (v5.2.2.map (Uun 0))).bind fun r7 =>
  some (!r7)))).bind fun x =>
 syntax_rightFields.j1 v3 known4 v5 x)
 else
 some (.inr (leZ (l1.length:Int) most2))
noncomputable def syntax_rightFields [Fuel] (l1:List GField) (most2:Int):Option Bool :=
 loopF (fun x=>syntax_rightFields.b1 l1 most2 x.1 x.2) (0,([]:List (Bs × Bool)))
noncomputable def syntax_rightExps.b1 [Fuel] (l1:List GExp) (n2:Int) (v3:Int):Option ((Int) ⊕ (Bool)) :=
 bif (ltZ v3 (l1.length:Int)) then
 ((idx l1 v3).bind fun v4 =>
 (syntax_RightExp v4.1 v4.2.1 v4.2.2.1 v4.2.2.2.1 v4.2.2.2.2.1 (v4.2.2.2.2.2.map (Uun 1))).bind fun r5 =>
 bif (!r5) then
  some (.inr false)
 else
  ((z64 (v3 + 1)).bind fun v6 =>
  some (.inl v6)))
 else
 some (.inr (eqZ (l1.length:Int) n2))
noncomputable def syntax_rightExps [Fuel] (l1:List GExp) (n2:Int):Option Bool :=
 loopF (fun x=>syntax_rightExps.b1 l1 n2 x) 0
noncomputable def syntax_Right.j1 [Fuel] (v10:Int) (known11:List (Bs × Bool)) (v12:Bs) (v14:Bool):Option ((Int × List (Bs × Bool)) ⊕ ((Unit) ⊕ (Bool))) :=
 bif v14 then
 some (.inr (.inr false))
 else
 ((z64 (v10 + 1)).bind fun v15 =>
 some (.inl (v15,(putM known11 v12 true))))
noncomputable def syntax_Right.b1 [Fuel] (m2:List Bs) (v10:Int) (known11:List (Bs × Bool)):Option ((Int × List (Bs × Bool)) ⊕ ((Unit) ⊕ (Bool))) :=
 bif (ltZ v10 (m2.length:Int)) then
 ((idx m2 v10).bind fun v12 =>
 (bif ((lookM known11 v12).getD false) then
  some true
 else
  ((syntax_Name v12).bind fun n13 =>
  some (!n13))).bind fun x =>
 syntax_Right.j1 v10 known11 v12 x)
 else
 some (.inr (.inl ()))
noncomputable def syntax_Right.j2 [Fuel] (v16:Int) (funcs17:List (Bs × Bool)) (v18:GFunc) (v23:Bool):Option ((Int × List (Bs × Bool)) ⊕ ((Unit) ⊕ (Bool))) :=
 bif v23 then
 some (.inr (.inr false))
 else
 ((z64 (v16 + 1)).bind fun v24 =>
 some (.inl (v24,(putM funcs17 v18.1 true))))
noncomputable def syntax_Right.b2 [Fuel] (m5:List GFunc) (v16:Int) (funcs17:List (Bs × Bool)):Option ((Int × List (Bs × Bool)) ⊕ ((Unit) ⊕ (Bool))) :=
 bif (ltZ v16 (m5.length:Int)) then
 ((idx m5 v16).bind fun v18 =>
 (bif ((lookM funcs17 v18.1).getD false) then
  some true
 else
  ((syntax_Name v18.1).bind fun n19 =>
  bif (!n19) then
  some true
  else
  ((syntax_rightFields (v18.2.2.1.map (Uun 0)) 6).bind fun r20 =>
  bif (!r20) then
   some true
  else
   ((syntax_RightType v18.2.2.2.1.1 (v18.2.2.2.1.2.map (Uun 0))).bind fun r21 =>
   bif (!r21) then
   some true
   else
   ((syntax_RightExp v18.2.2.2.2.2.1 v18.2.2.2.2.2.2.1 v18.2.2.2.2.2.2.2.1 v18.2.2.2.2.2.2.2.2.1 v18.2.2.2.2.2.2.2.2.2.1 (v18.2.2.2.2.2.2.2.2.2.2.map (Uun 1))).bind fun r22 =>
   bif (!r22) then
    some true
   else
    some (!eqZ (anI .i64 v18.2.2.2.2.1 15) 0)))))).bind fun x =>
 syntax_Right.j2 v16 funcs17 v18 x)
 else
 some (.inr (.inl ()))
noncomputable def syntax_Right.j3 [Fuel] (m7:List GField) (m8:List GExp) (m9:List GExp) (vars29:Int):Option Bool :=
 (syntax_rightFields m7 8).bind fun r30 =>
 bif r30 then
 ((syntax_rightExps m8 vars29).bind fun r31 =>
 bif r31 then
  ((syntax_rightExps m9 (m7.length:Int)).bind fun r32 =>
  some r32)
 else
  some false)
 else
 some false
noncomputable def syntax_Right.j4 [Fuel] (m3:List GField) (m6:Bool) (m7:List GField) (m8:List GExp) (m9:List GExp) (v28:Bool):Option Bool :=
 bif v28 then
 some false
 else
 (((bif (!m6) then
  (bif (ltZ 0 (m7.length:Int)) then
  some (.inr false)
  else
  some (.inl 0))
 else
  some (.inl (m3.length:Int))):Option ((Int) ⊕ (Bool))).bind fun x=>match x with
 | .inl x =>
  syntax_Right.j3 m7 m8 m9 x
 | .inr r=>some r)
noncomputable def syntax_Right.j5 [Fuel] (m1:Bs) (m2:List Bs) (m3:List GField) (m4:List GExp) (m5:List GFunc) (m6:Bool) (m7:List GField) (m8:List GExp) (m9:List GExp):Option Bool :=
 ((syntax_Name m1).bind fun n25 =>
 bif (!n25) then
 some true
 else
 (bif (ltZ 12 (m2.length:Int)) then
  some true
 else
  (bif (ltZ 30 (m5.length:Int)) then
  some true
  else
  ((syntax_rightFields m3 8).bind fun r26 =>
  bif (!r26) then
   some true
  else
   ((syntax_rightExps m4 (m3.length:Int)).bind fun r27 =>
   some (!r27)))))).bind fun x =>
 syntax_Right.j4 m3 m6 m7 m8 m9 x
noncomputable def syntax_Right.j6 [Fuel] (m1:Bs) (m2:List Bs) (m3:List GField) (m4:List GExp) (m5:List GFunc) (m6:Bool) (m7:List GField) (m8:List GExp) (m9:List GExp):Option Bool :=
 (loopF (fun x=>syntax_Right.b2 m5 x.1 x.2) (0,([]:List (Bs × Bool)))).bind fun x=>match x with
 | .inl x =>
 syntax_Right.j5 m1 m2 m3 m4 m5 m6 m7 m8 m9
 | .inr r=>some r
noncomputable def syntax_Right [Fuel] (m1:Bs) (m2:List Bs) (m3:List GField) (m4:List GExp) (m5:List GFunc) (m6:Bool) (m7:List GField) (m8:List GExp) (m9:List GExp):Option Bool :=
 (loopF (fun x=>syntax_Right.b1 m2 x.1 x.2) (0,([]:List (Bs × Bool)))).bind fun x=>match x with
 | .inl x =>
 syntax_Right.j6 m1 m2 m3 m4 m5 m6 m7 m8 m9
 | .inr r=>some r
noncomputable def types_newJudge_1 [Fuel] (t1:Int) (t2:List GField):Option Bool :=
 (types_Right t1 t2).bind fun r3 =>
 some (!r3)
noncomputable def slices_IndexFunc_api_Type_api_Type.b1 [Fuel] (s1:List GType) (v2:Int):Option ((Int) ⊕ (Int)) :=
 bif (ltZ v2 (s1.length:Int)) then
 ((idx s1 v2).bind fun v3 =>
 (types_newJudge_1 v3.1 (v3.2.map (Uun 0))).bind fun v'4 =>
 bif v'4 then
  some (.inr v2)
 else
  ((z64 (v2 + 1)).bind fun v5 =>
  some (.inl v5)))
 else
 some (.inr (-1))
noncomputable def slices_IndexFunc_api_Type_api_Type [Fuel] (s1:List GType):Option Int :=
 loopF (fun x=>slices_IndexFunc_api_Type_api_Type.b1 s1 x) 0
noncomputable def slices_ContainsFunc_api_Type_api_Type [Fuel] (s1:List GType):Option Bool :=
 (slices_IndexFunc_api_Type_api_Type s1).bind fun t2 =>
 some (leZ 0 t2)
noncomputable def types_newJudge.j1 [Fuel] (v24:Int) (v28:Bool):Option ((Int) ⊕ ((Unit) ⊕ ((Int × Bs × (List Bs) × (List GField) × (List GExp) × (List GFunc) × Bool × (List GField) × (List GExp) × (List GExp) × Int × List (Bs × GFace)) ⊕ (Bs × (List Bs) × (List GField) × (List GExp) × (List GFunc) × Bool × (List GField) × (List GExp) × (List GExp) × Int × List (Bs × GFace))))) :=
 bif v28 then
 (Option.map Sum.inr (Option.map Sum.inr (Option.map Sum.inr (none))))
 else
 ((z64 (v24 + 1)).bind fun v29 =>
 some (.inl v29))
noncomputable def types_newJudge.b1 [Fuel] (v23:GFace) (v24:Int):Option ((Int) ⊕ ((Unit) ⊕ ((Int × Bs × (List Bs) × (List GField) × (List GExp) × (List GFunc) × Bool × (List GField) × (List GExp) × (List GExp) × Int × List (Bs × GFace)) ⊕ (Bs × (List Bs) × (List GField) × (List GExp) × (List GFunc) × Bool × (List GField) × (List GExp) × (List GExp) × Int × List (Bs × GFace))))) :=
 bif (ltZ v24 (v23.2.length:Int)) then
 ((idx v23.2 v24).bind fun v25 =>
 ((types_Right v25.2.2.1.1 (v25.2.2.1.2.map (Uun 0))).bind fun r26 =>
 bif (!r26) then
  some true
 else
  ((slices_ContainsFunc_api_Type_api_Type v25.2.1).bind fun t27 =>
  some t27)).bind fun x =>
 types_newJudge.j1 v24 x)
 else
 some (.inr (.inl ()))
noncomputable def types_newJudge.j2 [Fuel] (v11:Int) (j12:Bs) (j13:List Bs) (j14:List GField) (j15:List GExp) (j16:List GFunc) (j17:Bool) (j18:List GField) (j19:List GExp) (j20:List GExp) (j21:Int) (v22:List (Bs × GFace)) (v23:GFace):Option ((Int × Bs × (List Bs) × (List GField) × (List GExp) × (List GFunc) × Bool × (List GField) × (List GExp) × (List GExp) × Int × List (Bs × GFace)) ⊕ (Bs × (List Bs) × (List GField) × (List GExp) × (List GFunc) × Bool × (List GField) × (List GExp) × (List GExp) × Int × List (Bs × GFace))) :=
 bif (!(lookM v22 v23.1).isSome) then
 ((z64 (v11 + 1)).bind fun v30 =>
 some (.inl (v30,j12,j13,j14,j15,j16,j17,j18,j19,j20,j21,(putM v22 v23.1 v23))))
 else
 ((z64 (v11 + 1)).bind fun v31 =>
 some (.inl (v31,j12,j13,j14,j15,j16,j17,j18,j19,j20,j21,v22)))
noncomputable def types_newJudge.b2 [Fuel] (faces10:List GFace) (v11:Int) (j12:Bs) (j13:List Bs) (j14:List GField) (j15:List GExp) (j16:List GFunc) (j17:Bool) (j18:List GField) (j19:List GExp) (j20:List GExp) (j21:Int) (v22:List (Bs × GFace)):Option ((Int × Bs × (List Bs) × (List GField) × (List GExp) × (List GFunc) × Bool × (List GField) × (List GExp) × (List GExp) × Int × List (Bs × GFace)) ⊕ (Bs × (List Bs) × (List GField) × (List GExp) × (List GFunc) × Bool × (List GField) × (List GExp) × (List GExp) × Int × List (Bs × GFace))) :=
 bif (ltZ v11 (faces10.length:Int)) then
 ((idx faces10 v11).bind fun v23 =>
 (loopF (fun x=>types_newJudge.b1 v23 x) 0).bind fun x=>match x with
 | .inl x =>
  types_newJudge.j2 v11 j12 j13 j14 j15 j16 j17 j18 j19 j20 j21 v22 v23
 | .inr r=>some r)
 else
 some (.inr (j12,j13,j14,j15,j16,j17,j18,j19,j20,j21,v22))
noncomputable def types_newJudge [Fuel] (m1:Bs) (m2:List Bs) (m3:List GField) (m4:List GExp) (m5:List GFunc) (m6:Bool) (m7:List GField) (m8:List GExp) (m9:List GExp) (faces10:List GFace):Option (Bs × (List Bs) × (List GField) × (List GExp) × (List GFunc) × Bool × (List GField) × (List GExp) × (List GExp) × Int × List (Bs × GFace)) :=
 loopF (fun x=>types_newJudge.b2 faces10 x.1 x.2.1 x.2.2.1 x.2.2.2.1 x.2.2.2.2.1 x.2.2.2.2.2.1 x.2.2.2.2.2.2.1 x.2.2.2.2.2.2.2.1 x.2.2.2.2.2.2.2.2.1 x.2.2.2.2.2.2.2.2.2.1 x.2.2.2.2.2.2.2.2.2.2.1 x.2.2.2.2.2.2.2.2.2.2.2) (0,m1,m2,m3,m4,m5,m6,m7,m8,m9,0,([]:List (Bs × GFace)))
noncomputable def slices_Clone_api_Field_api_Field [Fuel] (s1:List GField):Option (List GField) :=
 bothN s1 (
 some []) (
 (app? ([]:List GField) s1).bind fun l2 =>
 some l2)
noncomputable def types_below_1 [Fuel] (Gr:Int → List GField → Int → List GField → Option Bool) (f1:Bs) (f2:Int) (f3:List GField) (p4:Int) (p5:List GField):Option Bool :=
 (types_lookup p5 f1).bind fun l6 =>
 bif (!l6.2) then
 some true
 else
 ((Gr l6.1.1 (l6.1.2.map (Uun 0)) f2 f3).bind fun b7 =>
 some (!b7))
noncomputable def slices_IndexFunc_api_Field_api_Field_v2.b1 [Fuel] (Gr:Int → List GField → Int → List GField → Option Bool) (s1:List GField) (p2:Int) (p3:List GField) (v4:Int):Option ((Int) ⊕ (Int)) :=
 bif (ltZ v4 (s1.length:Int)) then
 ((idx s1 v4).bind fun v5 =>
 (types_below_1 Gr v5.1 v5.2.1 (v5.2.2.map (Uun 0)) p2 p3).bind fun v'6 =>
 bif v'6 then
  some (.inr v4)
 else
  ((z64 (v4 + 1)).bind fun v7 =>
  some (.inl v7)))
 else
 some (.inr (-1))
noncomputable def slices_IndexFunc_api_Field_api_Field_v2 [Fuel] (Gr:Int → List GField → Int → List GField → Option Bool) (s1:List GField) (p2:Int) (p3:List GField):Option Int :=
 loopF (fun x=>slices_IndexFunc_api_Field_api_Field_v2.b1 Gr s1 p2 p3 x) 0
noncomputable def slices_ContainsFunc_api_Field_api_Field_v2 [Fuel] (Gr:Int → List GField → Int → List GField → Option Bool) (s1:List GField) (p2:Int) (p3:List GField):Option Bool :=
 (slices_IndexFunc_api_Field_api_Field_v2 Gr s1 p2 p3).bind fun v4 =>
 some (leZ 0 v4)
noncomputable def types_below.body [Fuel] (Gr:Int → List GField → Int → List GField → Option Bool) (a1:Int) (a2:List GField) (b3:Int) (b4:List GField):Option Bool :=
 bif (eqZ a1 b3) then
 ((slices_ContainsFunc_api_Field_api_Field_v2 Gr b4 a1 a2).bind fun v5 =>
 some (!v5))
 else
 some false
noncomputable def types_below.rec [Fuel]:Nat → Int → List GField → Int → List GField → Option Bool
 | 0=>fun _ _ _ _=>none
 | n + 1=>types_below.body (types_below.rec n)
noncomputable def types_below [Fuel] (a1:Int) (a2:List GField) (b3:Int) (b4:List GField):Option Bool:=types_below.rec Fuel.n a1 a2 b3 b4
noncomputable def types_judge_variable [Fuel] (Gr:List GField → Int → Int → Bs → Bs → List Bs → List GExp → Bs → List Bs → List GField → List GExp → List GFunc → Bool → List GField → List GExp → List GExp → Int → (List (Bs × GFace)) → Option (GType × Int × Bs × (List Bs) × (List GField) × (List GExp) × (List GFunc) × Bool × (List GField) × (List GExp) × (List GExp) × Int × List (Bs × GFace))) (locals1:List GField) (e2:Int) (e3:Int) (e4:Bs) (e5:Bs) (e6:List Bs) (e7:List GExp) (j8:Bs) (j9:List Bs) (j10:List GField) (j11:List GExp) (j12:List GFunc) (j13:Bool) (j14:List GField) (j15:List GExp) (j16:List GExp) (j17:Int) (p18:List (Bs × GFace)):Option (GType × Int × Bs × (List Bs) × (List GField) × (List GExp) × (List GFunc) × Bool × (List GField) × (List GExp) × (List GExp) × Int × List (Bs × GFace)) :=
 (types_lookup j10 e4).bind fun l19 =>
 bif (!l19.2) then
 some ((0,[]),12,j8,j9,j10,j11,j12,j13,j14,j15,j16,j17,p18)
 else
 (bif (eqZ e2 18) then
  ((idx e7 0).bind fun v20 =>
  (Gr locals1 v20.1 v20.2.1 v20.2.2.1 v20.2.2.2.1 v20.2.2.2.2.1 (v20.2.2.2.2.2.map (Uun 1)) j8 j9 j10 j11 j12 j13 j14 j15 j16 j17 p18).bind fun f21 =>
  bif (!eqZ f21.2.1 0) then
  some ((0,[]),f21.2.1,f21.2.2.1,f21.2.2.2.1,f21.2.2.2.2.1,f21.2.2.2.2.2.1,f21.2.2.2.2.2.2.1,f21.2.2.2.2.2.2.2.1,f21.2.2.2.2.2.2.2.2.1,f21.2.2.2.2.2.2.2.2.2.1,f21.2.2.2.2.2.2.2.2.2.2.1,f21.2.2.2.2.2.2.2.2.2.2.2.1,f21.2.2.2.2.2.2.2.2.2.2.2.2)
  else
  ((types_below f21.1.1 (f21.1.2.map (Uun 0)) l19.1.1 (l19.1.2.map (Uun 0))).bind fun b22 =>
  bif (!b22) then
   some ((0,[]),13,f21.2.2.1,f21.2.2.2.1,f21.2.2.2.2.1,f21.2.2.2.2.2.1,f21.2.2.2.2.2.2.1,f21.2.2.2.2.2.2.2.1,f21.2.2.2.2.2.2.2.2.1,f21.2.2.2.2.2.2.2.2.2.1,f21.2.2.2.2.2.2.2.2.2.2.1,f21.2.2.2.2.2.2.2.2.2.2.2.1,f21.2.2.2.2.2.2.2.2.2.2.2.2)
  else
   some ((l19.1.1,((l19.1.2.map (Uun 0)).map (Umk 0))),0,f21.2.2.1,f21.2.2.2.1,f21.2.2.2.2.1,f21.2.2.2.2.2.1,f21.2.2.2.2.2.2.1,f21.2.2.2.2.2.2.2.1,f21.2.2.2.2.2.2.2.2.1,f21.2.2.2.2.2.2.2.2.2.1,f21.2.2.2.2.2.2.2.2.2.2.1,f21.2.2.2.2.2.2.2.2.2.2.2.1,f21.2.2.2.2.2.2.2.2.2.2.2.2)))
 else
  some ((l19.1.1,((l19.1.2.map (Uun 0)).map (Umk 0))),0,j8,j9,j10,j11,j12,j13,j14,j15,j16,j17,p18))
noncomputable def types_judge_callee_1 [Fuel] (f1:Bs) (f2:Bool) (f3:List GField) (f4:Int) (f5:List GField) (f6:Int) (f7:Int) (f8:Int) (f9:Bs) (f10:Bs) (f11:List Bs) (f12:List GExp) (p13:Int) (p14:Int) (p15:Bs) (p16:Bs) (p17:List Bs) (p18:List GExp):Option Bool :=
 some (decide (f1 = p15))
noncomputable def slices_IndexFunc_api_Func_api_Func.b1 [Fuel] (s1:List GFunc) (p2:Int) (p3:Int) (p4:Bs) (p5:Bs) (p6:List Bs) (p7:List GExp) (v8:Int):Option ((Int) ⊕ (Int)) :=
 bif (ltZ v8 (s1.length:Int)) then
 ((idx s1 v8).bind fun v9 =>
 (types_judge_callee_1 v9.1 v9.2.1 (v9.2.2.1.map (Uun 0)) v9.2.2.2.1.1 (v9.2.2.2.1.2.map (Uun 0)) v9.2.2.2.2.1 v9.2.2.2.2.2.1 v9.2.2.2.2.2.2.1 v9.2.2.2.2.2.2.2.1 v9.2.2.2.2.2.2.2.2.1 v9.2.2.2.2.2.2.2.2.2.1 (v9.2.2.2.2.2.2.2.2.2.2.map (Uun 1)) p2 p3 p4 p5 p6 p7).bind fun v'10 =>
 bif v'10 then
  some (.inr v8)
 else
  ((z64 (v8 + 1)).bind fun v11 =>
  some (.inl v11)))
 else
 some (.inr (-1))
noncomputable def slices_IndexFunc_api_Func_api_Func [Fuel] (s1:List GFunc) (p2:Int) (p3:Int) (p4:Bs) (p5:Bs) (p6:List Bs) (p7:List GExp):Option Int :=
 loopF (fun x=>slices_IndexFunc_api_Func_api_Func.b1 s1 p2 p3 p4 p5 p6 p7 x) 0
noncomputable def types_judge_callee_2 [Fuel] (s1:Bs) (s2:List GType) (s3:Int) (s4:List GField) (s5:Int) (p6:Int) (p7:Int) (p8:Bs) (p9:Bs) (p10:List Bs) (p11:List GExp):Option Bool :=
 some (decide (s1 = p8))
noncomputable def slices_IndexFunc_api_Sig_api_Sig.b1 [Fuel] (s1:List GSig) (p2:Int) (p3:Int) (p4:Bs) (p5:Bs) (p6:List Bs) (p7:List GExp) (v8:Int):Option ((Int) ⊕ (Int)) :=
 bif (ltZ v8 (s1.length:Int)) then
 ((idx s1 v8).bind fun v9 =>
 (types_judge_callee_2 v9.1 v9.2.1 v9.2.2.1.1 (v9.2.2.1.2.map (Uun 0)) v9.2.2.2 p2 p3 p4 p5 p6 p7).bind fun v'10 =>
 bif v'10 then
  some (.inr v8)
 else
  ((z64 (v8 + 1)).bind fun v11 =>
  some (.inl v11)))
 else
 some (.inr (-1))
noncomputable def slices_IndexFunc_api_Sig_api_Sig [Fuel] (s1:List GSig) (p2:Int) (p3:Int) (p4:Bs) (p5:Bs) (p6:List Bs) (p7:List GExp):Option Int :=
 loopF (fun x=>slices_IndexFunc_api_Sig_api_Sig.b1 s1 p2 p3 p4 p5 p6 p7 x) 0
noncomputable def slices_Index_string_string.b1 [Fuel] (s1:List Bs) (p2:Bs) (v3:Int):Option ((Int) ⊕ (Int)) :=
 bif (ltZ v3 (s1.length:Int)) then
 ((idx s1 v3).bind fun v4 =>
 bif (decide (p2 = v4)) then
  some (.inr v3)
 else
  ((z64 (v3 + 1)).bind fun v5 =>
  some (.inl v5)))
 else
 some (.inr (-1))
noncomputable def slices_Index_string_string [Fuel] (s1:List Bs) (p2:Bs):Option Int :=
 loopF (fun x=>slices_Index_string_string.b1 s1 p2 x) 0
noncomputable def slices_Contains_string_string [Fuel] (s1:List Bs) (p2:Bs):Option Bool :=
 (slices_Index_string_string s1 p2).bind fun s3 =>
 some (leZ 0 s3)
noncomputable def types_judge_callee.b1 [Fuel] (v19:GFunc) (v20:Int) (s21:Bs) (s22:Int) (s23:List GField) (s24:Int) (v25:List GType):Option ((Int × Bs × Int × (List GField) × Int × List GType) ⊕ ((Unit) ⊕ (GSig × Bool))) :=
 bif (ltZ v20 ((v19.2.2.1.map (Uun 0)).length:Int)) then
 ((idx (v19.2.2.1.map (Uun 0)) v20).bind fun v26 =>
 (app? v25 ([(v26.2.1,((v26.2.2.map (Uun 0)).map (Umk 0)))]:List GType)).bind fun l27 =>
 (z64 (v20 + 1)).bind fun v28 =>
 some (.inl (v28,s21,s22,s23,s24,l27)))
 else
 some (.inr (.inr ((s21,v25,(s22,(s23.map (Umk 0))),s24),true)))
noncomputable def types_judge_callee.j1 [Fuel] (e4:Bs) (p17:List (Bs × GFace)) (s29:Int) (v31:Bool):Option (GSig × Bool) :=
 bif v31 then
 some ((([]:Bs),[],(0,[]),0),false)
 else
 ((idx (((lookM p17 e4).getD (([]:Bs),[])).2) s29).bind fun v32 =>
 some ((v32.1,v32.2.1,(v32.2.2.1.1,((v32.2.2.1.2.map (Uun 0)).map (Umk 0))),v32.2.2.2),true))
noncomputable def types_judge_callee.j2 [Fuel] (e1:Int) (e2:Int) (e3:Bs) (e4:Bs) (e5:List Bs) (e6:List GExp) (j8:List Bs) (p17:List (Bs × GFace)):Option (GSig × Bool) :=
 (slices_IndexFunc_api_Sig_api_Sig (((lookM p17 e4).getD (([]:Bs),[])).2) e1 e2 e3 e4 e5 e6).bind fun s29 =>
 (bif (!(lookM p17 e4).isSome) then
 some true
 else
 (bif (ltZ s29 0) then
  some true
 else
  ((slices_Contains_string_string j8 e4).bind fun s30 =>
  some (!s30)))).bind fun x =>
 types_judge_callee.j1 e4 p17 s29 x
noncomputable def types_judge_callee [Fuel] (e1:Int) (e2:Int) (e3:Bs) (e4:Bs) (e5:List Bs) (e6:List GExp) (j7:Bs) (j8:List Bs) (j9:List GField) (j10:List GExp) (j11:List GFunc) (j12:Bool) (j13:List GField) (j14:List GExp) (j15:List GExp) (j16:Int) (p17:List (Bs × GFace)):Option (GSig × Bool) :=
 ((bif (decide (e4 = ([]:Bs))) then
 ((slices_IndexFunc_api_Func_api_Func j11 e1 e2 e3 e4 e5 e6).bind fun f18 =>
 bif (ltZ f18 0) then
  some (.inr ((([]:Bs),[],(0,[]),0),false))
 else
  ((idx j11 f18).bind fun v19 =>
  loopF (fun x=>types_judge_callee.b1 v19 x.1 x.2.1 x.2.2.1 x.2.2.2.1 x.2.2.2.2.1 x.2.2.2.2.2) (0,([]:Bs),v19.2.2.2.1.1,(v19.2.2.2.1.2.map (Uun 0)),v19.2.2.2.2.1,[])))
 else
 some (.inl ())):Option ((Unit) ⊕ (GSig × Bool))).bind fun x=>match x with
 | .inl x =>
 types_judge_callee.j2 e1 e2 e3 e4 e5 e6 j8 p17
 | .inr r=>some r
noncomputable def types_judge_list.b1 [Fuel] (Gr:List GField → Int → Int → Bs → Bs → List Bs → List GExp → Bs → List Bs → List GField → List GExp → List GFunc → Bool → List GField → List GExp → List GExp → Int → (List (Bs × GFace)) → Option (GType × Int × Bs × (List Bs) × (List GField) × (List GExp) × (List GFunc) × Bool × (List GField) × (List GExp) × (List GExp) × Int × List (Bs × GFace))) (locals1:List GField) (l2:List GExp) (v14:Int) (j15:Bs) (j16:List Bs) (j17:List GField) (j18:List GExp) (j19:List GFunc) (j20:Bool) (j21:List GField) (j22:List GExp) (j23:List GExp) (j24:Int) (out25:List GType) (v26:List (Bs × GFace)):Option ((Int × Bs × (List Bs) × (List GField) × (List GExp) × (List GFunc) × Bool × (List GField) × (List GExp) × (List GExp) × Int × (List GType) × List (Bs × GFace)) ⊕ ((List GType) × Int × Bs × (List Bs) × (List GField) × (List GExp) × (List GFunc) × Bool × (List GField) × (List GExp) × (List GExp) × Int × List (Bs × GFace))) :=
 bif (ltZ v14 (l2.length:Int)) then
 ((idx l2 v14).bind fun v27 =>
 (Gr locals1 v27.1 v27.2.1 v27.2.2.1 v27.2.2.2.1 v27.2.2.2.2.1 (v27.2.2.2.2.2.map (Uun 1)) j15 j16 j17 j18 j19 j20 j21 j22 j23 j24 v26).bind fun f28 =>
 bif (!eqZ f28.2.1 0) then
  some (.inr ([],f28.2.1,f28.2.2.1,f28.2.2.2.1,f28.2.2.2.2.1,f28.2.2.2.2.2.1,f28.2.2.2.2.2.2.1,f28.2.2.2.2.2.2.2.1,f28.2.2.2.2.2.2.2.2.1,f28.2.2.2.2.2.2.2.2.2.1,f28.2.2.2.2.2.2.2.2.2.2.1,f28.2.2.2.2.2.2.2.2.2.2.2.1,f28.2.2.2.2.2.2.2.2.2.2.2.2))
 else
  ((app? out25 ([(f28.1.1,((f28.1.2.map (Uun 0)).map (Umk 0)))]:List GType)).bind fun l29 =>
  (z64 (v14 + 1)).bind fun v30 =>
  some (.inl (v30,f28.2.2.1,f28.2.2.2.1,f28.2.2.2.2.1,f28.2.2.2.2.2.1,f28.2.2.2.2.2.2.1,f28.2.2.2.2.2.2.2.1,f28.2.2.2.2.2.2.2.2.1,f28.2.2.2.2.2.2.2.2.2.1,f28.2.2.2.2.2.2.2.2.2.2.1,f28.2.2.2.2.2.2.2.2.2.2.2.1,l29,f28.2.2.2.2.2.2.2.2.2.2.2.2))))
 else
 some (.inr (out25,0,j15,j16,j17,j18,j19,j20,j21,j22,j23,j24,v26))
noncomputable def types_judge_list [Fuel] (Gr:List GField → Int → Int → Bs → Bs → List Bs → List GExp → Bs → List Bs → List GField → List GExp → List GFunc → Bool → List GField → List GExp → List GExp → Int → (List (Bs × GFace)) → Option (GType × Int × Bs × (List Bs) × (List GField) × (List GExp) × (List GFunc) × Bool × (List GField) × (List GExp) × (List GExp) × Int × List (Bs × GFace))) (locals1:List GField) (l2:List GExp) (j3:Bs) (j4:List Bs) (j5:List GField) (j6:List GExp) (j7:List GFunc) (j8:Bool) (j9:List GField) (j10:List GExp) (j11:List GExp) (j12:Int) (p13:List (Bs × GFace)):Option ((List GType) × Int × Bs × (List Bs) × (List GField) × (List GExp) × (List GFunc) × Bool × (List GField) × (List GExp) × (List GExp) × Int × List (Bs × GFace)) :=
 loopF (fun x=>types_judge_list.b1 Gr locals1 l2 x.1 x.2.1 x.2.2.1 x.2.2.2.1 x.2.2.2.2.1 x.2.2.2.2.2.1 x.2.2.2.2.2.2.1 x.2.2.2.2.2.2.2.1 x.2.2.2.2.2.2.2.2.1 x.2.2.2.2.2.2.2.2.2.1 x.2.2.2.2.2.2.2.2.2.2.1 x.2.2.2.2.2.2.2.2.2.2.2.1 x.2.2.2.2.2.2.2.2.2.2.2.2) (0,j3,j4,j5,j6,j7,j8,j9,j10,j11,j12,[],p13)
noncomputable def types_judge_call.b1 [Fuel] (c19:GSig × Bool) (l20:(List GType) × Int × Bs × (List Bs) × (List GField) × (List GExp) × (List GFunc) × Bool × (List GField) × (List GExp) × (List GExp) × Int × List (Bs × GFace)) (v21:Int):Option ((Int) ⊕ (GType × Int × Bs × (List Bs) × (List GField) × (List GExp) × (List GFunc) × Bool × (List GField) × (List GExp) × (List GExp) × Int × List (Bs × GFace))) :=
 bif (ltZ v21 (l20.1.length:Int)) then
 ((idx l20.1 v21).bind fun v22 =>
 (idx c19.1.2.1 v21).bind fun v23 =>
 (types_below v22.1 (v22.2.map (Uun 0)) v23.1 (v23.2.map (Uun 0))).bind fun b24 =>
 bif (!b24) then
  some (.inr ((0,[]),13,l20.2.2.1,l20.2.2.2.1,l20.2.2.2.2.1,l20.2.2.2.2.2.1,l20.2.2.2.2.2.2.1,l20.2.2.2.2.2.2.2.1,l20.2.2.2.2.2.2.2.2.1,l20.2.2.2.2.2.2.2.2.2.1,l20.2.2.2.2.2.2.2.2.2.2.1,l20.2.2.2.2.2.2.2.2.2.2.2.1,l20.2.2.2.2.2.2.2.2.2.2.2.2))
 else
  ((z64 (v21 + 1)).bind fun v25 =>
  some (.inl v25)))
 else
 some (.inr ((c19.1.2.2.1.1,((c19.1.2.2.1.2.map (Uun 0)).map (Umk 0))),0,l20.2.2.1,l20.2.2.2.1,l20.2.2.2.2.1,l20.2.2.2.2.2.1,l20.2.2.2.2.2.2.1,l20.2.2.2.2.2.2.2.1,l20.2.2.2.2.2.2.2.2.1,l20.2.2.2.2.2.2.2.2.2.1,l20.2.2.2.2.2.2.2.2.2.2.1,(orI .i64 l20.2.2.2.2.2.2.2.2.2.2.2.1 c19.1.2.2.2),l20.2.2.2.2.2.2.2.2.2.2.2.2))
noncomputable def types_judge_call [Fuel] (Gr:List GField → Int → Int → Bs → Bs → List Bs → List GExp → Bs → List Bs → List GField → List GExp → List GFunc → Bool → List GField → List GExp → List GExp → Int → (List (Bs × GFace)) → Option (GType × Int × Bs × (List Bs) × (List GField) × (List GExp) × (List GFunc) × Bool × (List GField) × (List GExp) × (List GExp) × Int × List (Bs × GFace))) (locals1:List GField) (e2:Int) (e3:Int) (e4:Bs) (e5:Bs) (e6:List Bs) (e7:List GExp) (j8:Bs) (j9:List Bs) (j10:List GField) (j11:List GExp) (j12:List GFunc) (j13:Bool) (j14:List GField) (j15:List GExp) (j16:List GExp) (j17:Int) (p18:List (Bs × GFace)):Option (GType × Int × Bs × (List Bs) × (List GField) × (List GExp) × (List GFunc) × Bool × (List GField) × (List GExp) × (List GExp) × Int × List (Bs × GFace)) :=
 (types_judge_callee e2 e3 e4 e5 e6 e7 j8 j9 j10 j11 j12 j13 j14 j15 j16 j17 p18).bind fun c19 =>
 bif (!c19.2) then
 some ((0,[]),12,j8,j9,j10,j11,j12,j13,j14,j15,j16,j17,p18)
 else
 (bif (!eqZ (c19.1.2.1.length:Int) (e7.length:Int)) then
  some ((0,[]),13,j8,j9,j10,j11,j12,j13,j14,j15,j16,j17,p18)
 else
  ((types_judge_list Gr locals1 e7 j8 j9 j10 j11 j12 j13 j14 j15 j16 j17 p18).bind fun l20 =>
  bif (!eqZ l20.2.1 0) then
  some ((0,[]),l20.2.1,l20.2.2.1,l20.2.2.2.1,l20.2.2.2.2.1,l20.2.2.2.2.2.1,l20.2.2.2.2.2.2.1,l20.2.2.2.2.2.2.2.1,l20.2.2.2.2.2.2.2.2.1,l20.2.2.2.2.2.2.2.2.2.1,l20.2.2.2.2.2.2.2.2.2.2.1,l20.2.2.2.2.2.2.2.2.2.2.2.1,l20.2.2.2.2.2.2.2.2.2.2.2.2)
  else
  (loopF (fun x=>types_judge_call.b1 c19 l20 x) 0)))
noncomputable def types_plain_1_1 [Fuel] (t1:Int) (t2:List GField) (p3:Int):Option Bool :=
 some (!eqZ t1 p3)
noncomputable def slices_IndexFunc_api_Type_api_Type_v2.b1 [Fuel] (s1:List GType) (p2:Int) (v3:Int):Option ((Int) ⊕ (Int)) :=
 bif (ltZ v3 (s1.length:Int)) then
 ((idx s1 v3).bind fun v4 =>
 (types_plain_1_1 v4.1 (v4.2.map (Uun 0)) p2).bind fun v'5 =>
 bif v'5 then
  some (.inr v3)
 else
  ((z64 (v3 + 1)).bind fun v6 =>
  some (.inl v6)))
 else
 some (.inr (-1))
noncomputable def slices_IndexFunc_api_Type_api_Type_v2 [Fuel] (s1:List GType) (p2:Int):Option Int :=
 loopF (fun x=>slices_IndexFunc_api_Type_api_Type_v2.b1 s1 p2 x) 0
noncomputable def slices_ContainsFunc_api_Type_api_Type_v2 [Fuel] (s1:List GType) (p2:Int):Option Bool :=
 (slices_IndexFunc_api_Type_api_Type_v2 s1 p2).bind fun v3 =>
 some (leZ 0 v3)
noncomputable def types_plain_1 [Fuel] (kind1:Int) (p2:List GType):Option Bool :=
 (slices_ContainsFunc_api_Type_api_Type_v2 p2 kind1).bind fun v3 =>
 some (!v3)
noncomputable def types_plain.b1 [Fuel] (e5:List Bs) (l7:List GType) (v19:Int) (result20:Int) (v21:List GField):Option ((Int × Int × List GField) ⊕ (Bool × Int × List GField)) :=
 bif (ltZ v19 (l7.length:Int)) then
 ((idx l7 v19).bind fun v22 =>
 (idx e5 v19).bind fun v23 =>
 (app? v21 ([(v23,v22.1,((v22.2.map (Uun 0)).map (Umk 0)))]:List GField)).bind fun l24 =>
 (z64 (v19 + 1)).bind fun v25 =>
 some (.inl (v25,result20,l24)))
 else
 some (.inr (true,result20,v21))
noncomputable def types_plain.j1 [Fuel] (e1:Int) (e3:Bs) (e5:List Bs) (l7:List GType) (v13:Bool):Option (Bool × Int × List GField) :=
 bif v13 then
 ((types_plain_1 1 l7).bind fun v'14 =>
 some (v'14,1,[]))
 else
 (bif (eqZ e1 11) then
  ((idx l7 1).bind fun v15 =>
  (idx l7 2).bind fun v16 =>
  (types_upper v15.1 (v15.2.map (Uun 0)) v16.1 (v16.2.map (Uun 0))).bind fun u17 =>
  bif u17.2 then
  ((idx l7 0).bind fun v18 =>
  some ((eqZ v18.1 1),u17.1.1,(u17.1.2.map (Uun 0))))
  else
  some (false,u17.1.1,(u17.1.2.map (Uun 0))))
 else
  (bif (eqZ e1 13) then
  (loopF (fun x=>types_plain.b1 e5 l7 x.1 x.2.1 x.2.2) (0,2,[]))
  else
  (bif (eqZ e1 14) then
   ((idx l7 0).bind fun v26 =>
   (types_lookup (v26.2.map (Uun 0)) e3).bind fun l27 =>
   some (l27.2,l27.1.1,(l27.1.2.map (Uun 0))))
  else
   some (true,0,[]))))
noncomputable def types_plain.j2 [Fuel] (e1:Int) (e3:Bs) (e5:List Bs) (l7:List GType) (v8:Bool):Option (Bool × Int × List GField) :=
 bif v8 then
 ((types_plain_1 0 l7).bind fun v'9 =>
 some (v'9,0,[]))
 else
 (bif (eqZ e1 1) then
  some (true,1,[])
 else
  (bif (eqZ e1 6) then
  ((types_plain_1 0 l7).bind fun v'10 =>
  some (v'10,1,[]))
  else
  (bif (eqZ e1 7) then
   ((types_plain_1 0 l7).bind fun v'11 =>
   bif v'11 then
   some (true,1,[])
   else
   ((types_plain_1 1 l7).bind fun v'12 =>
   some (v'12,1,[])))
  else
   ((bif (eqZ e1 8) then
   some (eqZ e1 8)
   else
   (bif (eqZ e1 9) then
    some (eqZ e1 9)
   else
    some (eqZ e1 10))).bind fun x =>
   types_plain.j1 e1 e3 e5 l7 x))))
noncomputable def types_plain.j3 [Fuel] (ok28:Bool) (result29:Int) (result30:List GField):Option (GType × Int) :=
 bif (!ok28) then
 some ((0,[]),13)
 else
 some ((result29,(result30.map (Umk 0))),0)
noncomputable def types_plain [Fuel] (e1:Int) (e2:Int) (e3:Bs) (e4:Bs) (e5:List Bs) (e6:List GExp) (l7:List GType):Option (GType × Int) :=
 ((bif (eqZ e1 3) then
 some (eqZ e1 3)
 else
 (bif (eqZ e1 4) then
  some (eqZ e1 4)
 else
  (bif (eqZ e1 5) then
  some (eqZ e1 5)
  else
  some (eqZ e1 16)))).bind fun x =>
 types_plain.j2 e1 e3 e5 l7 x).bind fun x =>
 types_plain.j3 x.1 x.2.1 x.2.2
noncomputable def types_judge_find.j1 [Fuel] (e2:Int) (e3:Int) (e4:Bs) (e5:Bs) (e6:List Bs) (e7:List GExp) (l29:(List GType) × Int × Bs × (List Bs) × (List GField) × (List GExp) × (List GFunc) × Bool × (List GField) × (List GExp) × (List GExp) × Int × List (Bs × GFace)) (v30:Bs) (v31:List Bs) (v32:List GField) (v33:List GExp) (v34:List GFunc) (v35:Bool) (v36:List GField) (v37:List GExp) (v38:List GExp) (v39:Int) (v40:List (Bs × GFace)):Option (GType × Int × Bs × (List Bs) × (List GField) × (List GExp) × (List GFunc) × Bool × (List GField) × (List GExp) × (List GExp) × Int × List (Bs × GFace)) :=
 (types_plain e2 e3 e4 e5 e6 e7 l29.1).bind fun p41 =>
 some ((p41.1.1,((p41.1.2.map (Uun 0)).map (Umk 0))),p41.2,v30,v31,v32,v33,v34,v35,v36,v37,v38,v39,v40)
noncomputable def types_judge_find.j2 [Fuel] (Gr:List GField → Int → Int → Bs → Bs → List Bs → List GExp → Bs → List Bs → List GField → List GExp → List GFunc → Bool → List GField → List GExp → List GExp → Int → (List (Bs × GFace)) → Option (GType × Int × Bs × (List Bs) × (List GField) × (List GExp) × (List GFunc) × Bool × (List GField) × (List GExp) × (List GExp) × Int × List (Bs × GFace))) (locals1:List GField) (e2:Int) (e3:Int) (e4:Bs) (e5:Bs) (e6:List Bs) (e7:List GExp) (j8:Bs) (j9:List Bs) (j10:List GField) (j11:List GExp) (j12:List GFunc) (j13:Bool) (j14:List GField) (j15:List GExp) (j16:List GExp) (j17:Int) (p18:List (Bs × GFace)) (v26:Bool):Option (GType × Int × Bs × (List Bs) × (List GField) × (List GExp) × (List GFunc) × Bool × (List GField) × (List GExp) × (List GExp) × Int × List (Bs × GFace)) :=
 bif v26 then
 ((types_judge_variable Gr locals1 e2 e3 e4 e5 e6 e7 j8 j9 j10 j11 j12 j13 j14 j15 j16 j17 p18).bind fun v27 =>
 some ((v27.1.1,((v27.1.2.map (Uun 0)).map (Umk 0))),v27.2.1,v27.2.2.1,v27.2.2.2.1,v27.2.2.2.2.1,v27.2.2.2.2.2.1,v27.2.2.2.2.2.2.1,v27.2.2.2.2.2.2.2.1,v27.2.2.2.2.2.2.2.2.1,v27.2.2.2.2.2.2.2.2.2.1,v27.2.2.2.2.2.2.2.2.2.2.1,v27.2.2.2.2.2.2.2.2.2.2.2.1,v27.2.2.2.2.2.2.2.2.2.2.2.2))
 else
 (bif (eqZ e2 15) then
  ((types_judge_call Gr locals1 e2 e3 e4 e5 e6 e7 j8 j9 j10 j11 j12 j13 j14 j15 j16 j17 p18).bind fun c28 =>
  some ((c28.1.1,((c28.1.2.map (Uun 0)).map (Umk 0))),c28.2.1,c28.2.2.1,c28.2.2.2.1,c28.2.2.2.2.1,c28.2.2.2.2.2.1,c28.2.2.2.2.2.2.1,c28.2.2.2.2.2.2.2.1,c28.2.2.2.2.2.2.2.2.1,c28.2.2.2.2.2.2.2.2.2.1,c28.2.2.2.2.2.2.2.2.2.2.1,c28.2.2.2.2.2.2.2.2.2.2.2.1,c28.2.2.2.2.2.2.2.2.2.2.2.2))
 else
  ((types_judge_list Gr locals1 e7 j8 j9 j10 j11 j12 j13 j14 j15 j16 j17 p18).bind fun l29 =>
  bif (!eqZ l29.2.1 0) then
  some ((0,[]),l29.2.1,l29.2.2.1,l29.2.2.2.1,l29.2.2.2.2.1,l29.2.2.2.2.2.1,l29.2.2.2.2.2.2.1,l29.2.2.2.2.2.2.2.1,l29.2.2.2.2.2.2.2.2.1,l29.2.2.2.2.2.2.2.2.2.1,l29.2.2.2.2.2.2.2.2.2.2.1,l29.2.2.2.2.2.2.2.2.2.2.2.1,l29.2.2.2.2.2.2.2.2.2.2.2.2)
  else
  ((bif (eqZ e2 16) then
   some (l29.2.2.1,l29.2.2.2.1,l29.2.2.2.2.1,l29.2.2.2.2.2.1,l29.2.2.2.2.2.2.1,l29.2.2.2.2.2.2.2.1,l29.2.2.2.2.2.2.2.2.1,l29.2.2.2.2.2.2.2.2.2.1,l29.2.2.2.2.2.2.2.2.2.2.1,(orI .i64 l29.2.2.2.2.2.2.2.2.2.2.2.1 e3),l29.2.2.2.2.2.2.2.2.2.2.2.2)
  else
   some (l29.2.2.1,l29.2.2.2.1,l29.2.2.2.2.1,l29.2.2.2.2.2.1,l29.2.2.2.2.2.2.1,l29.2.2.2.2.2.2.2.1,l29.2.2.2.2.2.2.2.2.1,l29.2.2.2.2.2.2.2.2.2.1,l29.2.2.2.2.2.2.2.2.2.2.1,l29.2.2.2.2.2.2.2.2.2.2.2.1,l29.2.2.2.2.2.2.2.2.2.2.2.2)).bind fun x =>
  types_judge_find.j1 e2 e3 e4 e5 e6 e7 l29 x.1 x.2.1 x.2.2.1 x.2.2.2.1 x.2.2.2.2.1 x.2.2.2.2.2.1 x.2.2.2.2.2.2.1 x.2.2.2.2.2.2.2.1 x.2.2.2.2.2.2.2.2.1 x.2.2.2.2.2.2.2.2.2.1 x.2.2.2.2.2.2.2.2.2.2)))
noncomputable def types_judge_find.body [Fuel] (Gr:List GField → Int → Int → Bs → Bs → List Bs → List GExp → Bs → List Bs → List GField → List GExp → List GFunc → Bool → List GField → List GExp → List GExp → Int → (List (Bs × GFace)) → Option (GType × Int × Bs × (List Bs) × (List GField) × (List GExp) × (List GFunc) × Bool × (List GField) × (List GExp) × (List GExp) × Int × List (Bs × GFace))) (locals1:List GField) (e2:Int) (e3:Int) (e4:Bs) (e5:Bs) (e6:List Bs) (e7:List GExp) (j8:Bs) (j9:List Bs) (j10:List GField) (j11:List GExp) (j12:List GFunc) (j13:Bool) (j14:List GField) (j15:List GExp) (j16:List GExp) (j17:Int) (p18:List (Bs × GFace)):Option (GType × Int × Bs × (List Bs) × (List GField) × (List GExp) × (List GFunc) × Bool × (List GField) × (List GExp) × (List GExp) × Int × List (Bs × GFace)) :=
 bif (eqZ e2 2) then
 ((types_lookup locals1 e4).bind fun l19 =>
 bif l19.2 then
  some ((l19.1.1,((l19.1.2.map (Uun 0)).map (Umk 0))),0,j8,j9,j10,j11,j12,j13,j14,j15,j16,j17,p18)
 else
  some ((0,[]),12,j8,j9,j10,j11,j12,j13,j14,j15,j16,j17,p18))
 else
 (bif (eqZ e2 12) then
  ((idx e7 0).bind fun v20 =>
  (Gr locals1 v20.1 v20.2.1 v20.2.2.1 v20.2.2.2.1 v20.2.2.2.2.1 (v20.2.2.2.2.2.map (Uun 1)) j8 j9 j10 j11 j12 j13 j14 j15 j16 j17 p18).bind fun f21 =>
  bif (!eqZ f21.2.1 0) then
  some ((0,[]),f21.2.1,f21.2.2.1,f21.2.2.2.1,f21.2.2.2.2.1,f21.2.2.2.2.2.1,f21.2.2.2.2.2.2.1,f21.2.2.2.2.2.2.2.1,f21.2.2.2.2.2.2.2.2.1,f21.2.2.2.2.2.2.2.2.2.1,f21.2.2.2.2.2.2.2.2.2.2.1,f21.2.2.2.2.2.2.2.2.2.2.2.1,f21.2.2.2.2.2.2.2.2.2.2.2.2)
  else
  ((slices_Clone_api_Field_api_Field locals1).bind fun f22 =>
  (app? f22 ([(e4,f21.1.1,((f21.1.2.map (Uun 0)).map (Umk 0)))]:List GField)).bind fun l23 =>
  (idx e7 1).bind fun v24 =>
  (Gr l23 v24.1 v24.2.1 v24.2.2.1 v24.2.2.2.1 v24.2.2.2.2.1 (v24.2.2.2.2.2.map (Uun 1)) f21.2.2.1 f21.2.2.2.1 f21.2.2.2.2.1 f21.2.2.2.2.2.1 f21.2.2.2.2.2.2.1 f21.2.2.2.2.2.2.2.1 f21.2.2.2.2.2.2.2.2.1 f21.2.2.2.2.2.2.2.2.2.1 f21.2.2.2.2.2.2.2.2.2.2.1 f21.2.2.2.2.2.2.2.2.2.2.2.1 f21.2.2.2.2.2.2.2.2.2.2.2.2).bind fun f25 =>
  some ((f25.1.1,((f25.1.2.map (Uun 0)).map (Umk 0))),f25.2.1,f25.2.2.1,f25.2.2.2.1,f25.2.2.2.2.1,f25.2.2.2.2.2.1,f25.2.2.2.2.2.2.1,f25.2.2.2.2.2.2.2.1,f25.2.2.2.2.2.2.2.2.1,f25.2.2.2.2.2.2.2.2.2.1,f25.2.2.2.2.2.2.2.2.2.2.1,f25.2.2.2.2.2.2.2.2.2.2.2.1,f25.2.2.2.2.2.2.2.2.2.2.2.2)))
 else
  ((bif (eqZ e2 17) then
  some (eqZ e2 17)
  else
  some (eqZ e2 18)).bind fun x =>
  types_judge_find.j2 Gr locals1 e2 e3 e4 e5 e6 e7 j8 j9 j10 j11 j12 j13 j14 j15 j16 j17 p18 x))
noncomputable def types_judge_find.rec [Fuel]:Nat → List GField → Int → Int → Bs → Bs → List Bs → List GExp → Bs → List Bs → List GField → List GExp → List GFunc → Bool → List GField → List GExp → List GExp → Int → (List (Bs × GFace)) → Option (GType × Int × Bs × (List Bs) × (List GField) × (List GExp) × (List GFunc) × Bool × (List GField) × (List GExp) × (List GExp) × Int × List (Bs × GFace))
 | 0=>fun _ _ _ _ _ _ _ _ _ _ _ _ _ _ _ _ _ _=>none
 | n + 1=>types_judge_find.body (types_judge_find.rec n)
noncomputable def types_judge_find [Fuel] (locals1:List GField) (e2:Int) (e3:Int) (e4:Bs) (e5:Bs) (e6:List Bs) (e7:List GExp) (j8:Bs) (j9:List Bs) (j10:List GField) (j11:List GExp) (j12:List GFunc) (j13:Bool) (j14:List GField) (j15:List GExp) (j16:List GExp) (j17:Int) (p18:List (Bs × GFace)):Option (GType × Int × Bs × (List Bs) × (List GField) × (List GExp) × (List GFunc) × Bool × (List GField) × (List GExp) × (List GExp) × Int × List (Bs × GFace)):=types_judge_find.rec Fuel.n locals1 e2 e3 e4 e5 e6 e7 j8 j9 j10 j11 j12 j13 j14 j15 j16 j17 p18
noncomputable def types_newJudge_v2.j1 [Fuel] (v24:Int) (v28:Bool):Option ((Int) ⊕ ((Unit) ⊕ ((Int × Bs × (List Bs) × (List GField) × (List GExp) × (List GFunc) × Bool × (List GField) × (List GExp) × (List GExp) × Int × List (Bs × GFace)) ⊕ (Unit)))) :=
 bif v28 then
 some (.inr (.inr (.inr ())))
 else
 ((z64 (v24 + 1)).bind fun v29 =>
 some (.inl v29))
noncomputable def types_newJudge_v2.b1 [Fuel] (v23:GFace) (v24:Int):Option ((Int) ⊕ ((Unit) ⊕ ((Int × Bs × (List Bs) × (List GField) × (List GExp) × (List GFunc) × Bool × (List GField) × (List GExp) × (List GExp) × Int × List (Bs × GFace)) ⊕ (Unit)))) :=
 bif (ltZ v24 (v23.2.length:Int)) then
 ((idx v23.2 v24).bind fun v25 =>
 ((types_Right v25.2.2.1.1 (v25.2.2.1.2.map (Uun 0))).bind fun r26 =>
 bif (!r26) then
  some true
 else
  ((slices_ContainsFunc_api_Type_api_Type v25.2.1).bind fun t27 =>
  some t27)).bind fun x =>
 types_newJudge_v2.j1 v24 x)
 else
 some (.inr (.inl ()))
noncomputable def types_newJudge_v2.j2 [Fuel] (v11:Int) (j12:Bs) (j13:List Bs) (j14:List GField) (j15:List GExp) (j16:List GFunc) (j17:Bool) (j18:List GField) (j19:List GExp) (j20:List GExp) (j21:Int) (v22:List (Bs × GFace)) (v23:GFace):Option ((Int × Bs × (List Bs) × (List GField) × (List GExp) × (List GFunc) × Bool × (List GField) × (List GExp) × (List GExp) × Int × List (Bs × GFace)) ⊕ (Unit)) :=
 bif (!(lookM v22 v23.1).isSome) then
 ((z64 (v11 + 1)).bind fun v30 =>
 some (.inl (v30,j12,j13,j14,j15,j16,j17,j18,j19,j20,j21,(putM v22 v23.1 v23))))
 else
 ((z64 (v11 + 1)).bind fun v31 =>
 some (.inl (v31,j12,j13,j14,j15,j16,j17,j18,j19,j20,j21,v22)))
noncomputable def types_newJudge_v2.b2 [Fuel] (faces10:List GFace) (v11:Int) (j12:Bs) (j13:List Bs) (j14:List GField) (j15:List GExp) (j16:List GFunc) (j17:Bool) (j18:List GField) (j19:List GExp) (j20:List GExp) (j21:Int) (v22:List (Bs × GFace)):Option ((Int × Bs × (List Bs) × (List GField) × (List GExp) × (List GFunc) × Bool × (List GField) × (List GExp) × (List GExp) × Int × List (Bs × GFace)) ⊕ (Unit)) :=
 bif (ltZ v11 (faces10.length:Int)) then
 ((idx faces10 v11).bind fun v23 =>
 (loopF (fun x=>types_newJudge_v2.b1 v23 x) 0).bind fun x=>match x with
 | .inl x =>
  types_newJudge_v2.j2 v11 j12 j13 j14 j15 j16 j17 j18 j19 j20 j21 v22 v23
 | .inr r=>some r)
 else
 (Option.map Sum.inr (none))
noncomputable def types_newJudge_v2 [Fuel] (m1:Bs) (m2:List Bs) (m3:List GField) (m4:List GExp) (m5:List GFunc) (m6:Bool) (m7:List GField) (m8:List GExp) (m9:List GExp) (faces10:List GFace):Option Unit :=
 loopF (fun x=>types_newJudge_v2.b2 faces10 x.1 x.2.1 x.2.2.1 x.2.2.2.1 x.2.2.2.2.1 x.2.2.2.2.2.1 x.2.2.2.2.2.2.1 x.2.2.2.2.2.2.2.1 x.2.2.2.2.2.2.2.2.1 x.2.2.2.2.2.2.2.2.2.1 x.2.2.2.2.2.2.2.2.2.2.1 x.2.2.2.2.2.2.2.2.2.2.2) (0,m1,m2,m3,m4,m5,m6,m7,m8,m9,0,([]:List (Bs × GFace)))
noncomputable def types_TypeOf.j1 [Fuel] (m1:GModule) (faces2:List GFace) (locals3:List GField) (e4:Int) (e5:Int) (e6:Bs) (e7:Bs) (e8:List Bs) (e9:List GExp) (v13:Bool):Option (GType × Int × Int) :=
 bif v13 then
 some ((0,[]),0,1)
 else
 (orT (
  (types_newJudge m1.1 m1.2.1 (m1.2.2.1.map (Uun 0)) (m1.2.2.2.1.map (Uun 1)) m1.2.2.2.2.1 m1.2.2.2.2.2.1 (m1.2.2.2.2.2.2.1.map (Uun 0)) (m1.2.2.2.2.2.2.2.1.map (Uun 1)) (m1.2.2.2.2.2.2.2.2.map (Uun 1)) faces2).bind fun n14 =>
  (types_judge_find locals3 e4 e5 e6 e7 e8 e9 n14.1 n14.2.1 n14.2.2.1 n14.2.2.2.1 n14.2.2.2.2.1 n14.2.2.2.2.2.1 n14.2.2.2.2.2.2.1 n14.2.2.2.2.2.2.2.1 n14.2.2.2.2.2.2.2.2.1 n14.2.2.2.2.2.2.2.2.2.1 n14.2.2.2.2.2.2.2.2.2.2).bind fun f15 =>
  bif (!eqZ f15.2.1 0) then
  some ((0,[]),0,f15.2.1)
  else
  ((types_fresh_v2 f15.1.1 (f15.1.2.map (Uun 0))).bind fun v16 =>
  some ((v16.1,((v16.2.map (Uun 0)).map (Umk 0))),f15.2.2.2.2.2.2.2.2.2.2.2.1,0))) (
  (types_newJudge_v2 m1.1 m1.2.1 (m1.2.2.1.map (Uun 0)) (m1.2.2.2.1.map (Uun 1)) m1.2.2.2.2.1 m1.2.2.2.2.2.1 (m1.2.2.2.2.2.2.1.map (Uun 0)) (m1.2.2.2.2.2.2.2.1.map (Uun 1)) (m1.2.2.2.2.2.2.2.2.map (Uun 1)) faces2).bind fun v17 =>
  some ((0,[]),0,1)))
noncomputable def types_TypeOf [Fuel] (m1:GModule) (faces2:List GFace) (locals3:List GField) (e4:Int) (e5:Int) (e6:Bs) (e7:Bs) (e8:List Bs) (e9:List GExp):Option (GType × Int × Int) :=
 (slices_ContainsFunc_api_Field_api_Field locals3).bind fun f10 =>
 (bif f10 then
 some true
 else
 ((syntax_RightExp e4 e5 e6 e7 e8 e9).bind fun r11 =>
 bif (!r11) then
  some true
 else
  ((syntax_Right m1.1 m1.2.1 (m1.2.2.1.map (Uun 0)) (m1.2.2.2.1.map (Uun 1)) m1.2.2.2.2.1 m1.2.2.2.2.2.1 (m1.2.2.2.2.2.2.1.map (Uun 0)) (m1.2.2.2.2.2.2.2.1.map (Uun 1)) (m1.2.2.2.2.2.2.2.2.map (Uun 1))).bind fun r12 =>
  some (!r12)))).bind fun x =>
 types_TypeOf.j1 m1 faces2 locals3 e4 e5 e6 e7 e8 e9 x
noncomputable def types_judge_variable_v2 [Fuel] (Gr:List GField → Int → Int → Bs → Bs → List Bs → List GExp → Bs → Bool → Int → Option (GType × Int × Bs × Bool × Int)) (locals1:List GField) (e2:Int) (e3:Int) (e4:Bs) (e5:Bs) (e6:List Bs) (e7:List GExp) (j8:Bs) (j9:Bool) (j10:Int):Option (GType × Int × Bs × Bool × Int) :=
 (types_lookup [] e4).bind fun l11 =>
 bif (!l11.2) then
 some ((0,[]),12,j8,j9,j10)
 else
 (bif (eqZ e2 18) then
  ((idx e7 0).bind fun v12 =>
  (Gr locals1 v12.1 v12.2.1 v12.2.2.1 v12.2.2.2.1 v12.2.2.2.2.1 (v12.2.2.2.2.2.map (Uun 1)) j8 j9 j10).bind fun v13 =>
  bif (!eqZ v13.2.1 0) then
  some ((0,[]),v13.2.1,v13.2.2.1,v13.2.2.2.1,v13.2.2.2.2)
  else
  ((types_below v13.1.1 (v13.1.2.map (Uun 0)) l11.1.1 (l11.1.2.map (Uun 0))).bind fun b14 =>
  bif (!b14) then
   some ((0,[]),13,v13.2.2.1,v13.2.2.2.1,v13.2.2.2.2)
  else
   some ((l11.1.1,((l11.1.2.map (Uun 0)).map (Umk 0))),0,v13.2.2.1,v13.2.2.2.1,v13.2.2.2.2)))
 else
  some ((l11.1.1,((l11.1.2.map (Uun 0)).map (Umk 0))),0,j8,j9,j10))
noncomputable def types_judge_callee_v2.j1 [Fuel] (s11:Int) (v13:Bool):Option (GSig × Bool) :=
 bif v13 then
 some ((([]:Bs),[],(0,[]),0),false)
 else
 ((idx (((none:Option GFace).getD (([]:Bs),[])).2) s11).bind fun v14 =>
 some ((v14.1,v14.2.1,(v14.2.2.1.1,((v14.2.2.1.2.map (Uun 0)).map (Umk 0))),v14.2.2.2),true))
noncomputable def types_judge_callee_v2.j2 [Fuel] (e1:Int) (e2:Int) (e3:Bs) (e4:Bs) (e5:List Bs) (e6:List GExp):Option (GSig × Bool) :=
 (slices_IndexFunc_api_Sig_api_Sig (((none:Option GFace).getD (([]:Bs),[])).2) e1 e2 e3 e4 e5 e6).bind fun s11 =>
 (bif (!(none:Option GFace).isSome) then
 some true
 else
 (bif (ltZ s11 0) then
  some true
 else
  ((slices_Contains_string_string [] e4).bind fun s12 =>
  some (!s12)))).bind fun x =>
 types_judge_callee_v2.j1 s11 x
noncomputable def types_judge_callee_v2 [Fuel] (e1:Int) (e2:Int) (e3:Bs) (e4:Bs) (e5:List Bs) (e6:List GExp) (j7:Bs) (j8:Bool) (j9:Int):Option (GSig × Bool) :=
 ((bif (decide (e4 = ([]:Bs))) then
 ((slices_IndexFunc_api_Func_api_Func [] e1 e2 e3 e4 e5 e6).bind fun f10 =>
 bif (ltZ f10 0) then
  some (.inr ((([]:Bs),[],(0,[]),0),false))
 else
  none)
 else
 some (.inl ())):Option ((Unit) ⊕ (GSig × Bool))).bind fun x=>match x with
 | .inl x =>
 types_judge_callee_v2.j2 e1 e2 e3 e4 e5 e6
 | .inr r=>some r
noncomputable def types_judge_list_v2.b1 [Fuel] (Gr:List GField → Int → Int → Bs → Bs → List Bs → List GExp → Bs → Bool → Int → Option (GType × Int × Bs × Bool × Int)) (locals1:List GField) (l2:List GExp) (v6:Int) (j7:Bs) (j8:Bool) (j9:Int) (out10:List GType):Option ((Int × Bs × Bool × Int × List GType) ⊕ ((List GType) × Int × Bs × Bool × Int)) :=
 bif (ltZ v6 (l2.length:Int)) then
 ((idx l2 v6).bind fun v11 =>
 (Gr locals1 v11.1 v11.2.1 v11.2.2.1 v11.2.2.2.1 v11.2.2.2.2.1 (v11.2.2.2.2.2.map (Uun 1)) j7 j8 j9).bind fun v12 =>
 bif (!eqZ v12.2.1 0) then
  some (.inr ([],v12.2.1,v12.2.2.1,v12.2.2.2.1,v12.2.2.2.2))
 else
  ((app? out10 ([(v12.1.1,((v12.1.2.map (Uun 0)).map (Umk 0)))]:List GType)).bind fun l13 =>
  (z64 (v6 + 1)).bind fun v14 =>
  some (.inl (v14,v12.2.2.1,v12.2.2.2.1,v12.2.2.2.2,l13))))
 else
 some (.inr (out10,0,j7,j8,j9))
noncomputable def types_judge_list_v2 [Fuel] (Gr:List GField → Int → Int → Bs → Bs → List Bs → List GExp → Bs → Bool → Int → Option (GType × Int × Bs × Bool × Int)) (locals1:List GField) (l2:List GExp) (j3:Bs) (j4:Bool) (j5:Int):Option ((List GType) × Int × Bs × Bool × Int) :=
 loopF (fun x=>types_judge_list_v2.b1 Gr locals1 l2 x.1 x.2.1 x.2.2.1 x.2.2.2.1 x.2.2.2.2) (0,j3,j4,j5,[])
noncomputable def types_judge_call_v2.b1 [Fuel] (v11:GSig × Bool) (v12:(List GType) × Int × Bs × Bool × Int) (v13:Int):Option ((Int) ⊕ (GType × Int × Bs × Bool × Int)) :=
 bif (ltZ v13 (v12.1.length:Int)) then
 ((idx v12.1 v13).bind fun v14 =>
 (idx v11.1.2.1 v13).bind fun v15 =>
 (types_below v14.1 (v14.2.map (Uun 0)) v15.1 (v15.2.map (Uun 0))).bind fun b16 =>
 bif (!b16) then
  some (.inr ((0,[]),13,v12.2.2.1,v12.2.2.2.1,v12.2.2.2.2))
 else
  ((z64 (v13 + 1)).bind fun v17 =>
  some (.inl v17)))
 else
 some (.inr ((v11.1.2.2.1.1,((v11.1.2.2.1.2.map (Uun 0)).map (Umk 0))),0,v12.2.2.1,v12.2.2.2.1,(orI .i64 v12.2.2.2.2 v11.1.2.2.2)))
noncomputable def types_judge_call_v2 [Fuel] (Gr:List GField → Int → Int → Bs → Bs → List Bs → List GExp → Bs → Bool → Int → Option (GType × Int × Bs × Bool × Int)) (locals1:List GField) (e2:Int) (e3:Int) (e4:Bs) (e5:Bs) (e6:List Bs) (e7:List GExp) (j8:Bs) (j9:Bool) (j10:Int):Option (GType × Int × Bs × Bool × Int) :=
 (types_judge_callee_v2 e2 e3 e4 e5 e6 e7 j8 j9 j10).bind fun v11 =>
 bif (!v11.2) then
 some ((0,[]),12,j8,j9,j10)
 else
 (bif (!eqZ (v11.1.2.1.length:Int) (e7.length:Int)) then
  some ((0,[]),13,j8,j9,j10)
 else
  ((types_judge_list_v2 Gr locals1 e7 j8 j9 j10).bind fun v12 =>
  bif (!eqZ v12.2.1 0) then
  some ((0,[]),v12.2.1,v12.2.2.1,v12.2.2.2.1,v12.2.2.2.2)
  else
  (loopF (fun x=>types_judge_call_v2.b1 v11 v12 x) 0)))
noncomputable def types_judge_find_v2.j1 [Fuel] (e2:Int) (e3:Int) (e4:Bs) (e5:Bs) (e6:List Bs) (e7:List GExp) (v21:(List GType) × Int × Bs × Bool × Int) (v22:Bs) (v23:Bool) (v24:Int):Option (GType × Int × Bs × Bool × Int) :=
 (types_plain e2 e3 e4 e5 e6 e7 v21.1).bind fun p25 =>
 some ((p25.1.1,((p25.1.2.map (Uun 0)).map (Umk 0))),p25.2,v22,v23,v24)
noncomputable def types_judge_find_v2.j2 [Fuel] (Gr:List GField → Int → Int → Bs → Bs → List Bs → List GExp → Bs → Bool → Int → Option (GType × Int × Bs × Bool × Int)) (locals1:List GField) (e2:Int) (e3:Int) (e4:Bs) (e5:Bs) (e6:List Bs) (e7:List GExp) (j8:Bs) (j9:Bool) (j10:Int) (v18:Bool):Option (GType × Int × Bs × Bool × Int) :=
 bif v18 then
 ((types_judge_variable_v2 Gr locals1 e2 e3 e4 e5 e6 e7 j8 j9 j10).bind fun v19 =>
 some ((v19.1.1,((v19.1.2.map (Uun 0)).map (Umk 0))),v19.2.1,v19.2.2.1,v19.2.2.2.1,v19.2.2.2.2))
 else
 (bif (eqZ e2 15) then
  ((types_judge_call_v2 Gr locals1 e2 e3 e4 e5 e6 e7 j8 j9 j10).bind fun v20 =>
  some ((v20.1.1,((v20.1.2.map (Uun 0)).map (Umk 0))),v20.2.1,v20.2.2.1,v20.2.2.2.1,v20.2.2.2.2))
 else
  ((types_judge_list_v2 Gr locals1 e7 j8 j9 j10).bind fun v21 =>
  bif (!eqZ v21.2.1 0) then
  some ((0,[]),v21.2.1,v21.2.2.1,v21.2.2.2.1,v21.2.2.2.2)
  else
  ((bif (eqZ e2 16) then
   some (v21.2.2.1,v21.2.2.2.1,(orI .i64 v21.2.2.2.2 e3))
  else
   some (v21.2.2.1,v21.2.2.2.1,v21.2.2.2.2)).bind fun x =>
  types_judge_find_v2.j1 e2 e3 e4 e5 e6 e7 v21 x.1 x.2.1 x.2.2)))
noncomputable def types_judge_find_v2.body [Fuel] (Gr:List GField → Int → Int → Bs → Bs → List Bs → List GExp → Bs → Bool → Int → Option (GType × Int × Bs × Bool × Int)) (locals1:List GField) (e2:Int) (e3:Int) (e4:Bs) (e5:Bs) (e6:List Bs) (e7:List GExp) (j8:Bs) (j9:Bool) (j10:Int):Option (GType × Int × Bs × Bool × Int) :=
 bif (eqZ e2 2) then
 ((types_lookup locals1 e4).bind fun l11 =>
 bif l11.2 then
  some ((l11.1.1,((l11.1.2.map (Uun 0)).map (Umk 0))),0,j8,j9,j10)
 else
  some ((0,[]),12,j8,j9,j10))
 else
 (bif (eqZ e2 12) then
  ((idx e7 0).bind fun v12 =>
  (Gr locals1 v12.1 v12.2.1 v12.2.2.1 v12.2.2.2.1 v12.2.2.2.2.1 (v12.2.2.2.2.2.map (Uun 1)) j8 j9 j10).bind fun v13 =>
  bif (!eqZ v13.2.1 0) then
  some ((0,[]),v13.2.1,v13.2.2.1,v13.2.2.2.1,v13.2.2.2.2)
  else
  ((slices_Clone_api_Field_api_Field locals1).bind fun f14 =>
  (app? f14 ([(e4,v13.1.1,((v13.1.2.map (Uun 0)).map (Umk 0)))]:List GField)).bind fun l15 =>
  (idx e7 1).bind fun v16 =>
  (Gr l15 v16.1 v16.2.1 v16.2.2.1 v16.2.2.2.1 v16.2.2.2.2.1 (v16.2.2.2.2.2.map (Uun 1)) v13.2.2.1 v13.2.2.2.1 v13.2.2.2.2).bind fun v17 =>
  some ((v17.1.1,((v17.1.2.map (Uun 0)).map (Umk 0))),v17.2.1,v17.2.2.1,v17.2.2.2.1,v17.2.2.2.2)))
 else
  ((bif (eqZ e2 17) then
  some (eqZ e2 17)
  else
  some (eqZ e2 18)).bind fun x =>
  types_judge_find_v2.j2 Gr locals1 e2 e3 e4 e5 e6 e7 j8 j9 j10 x))
noncomputable def types_judge_find_v2.rec [Fuel]:Nat → List GField → Int → Int → Bs → Bs → List Bs → List GExp → Bs → Bool → Int → Option (GType × Int × Bs × Bool × Int)
 | 0=>fun _ _ _ _ _ _ _ _ _ _=>none
 | n + 1=>types_judge_find_v2.body (types_judge_find_v2.rec n)
noncomputable def types_judge_find_v2 [Fuel] (locals1:List GField) (e2:Int) (e3:Int) (e4:Bs) (e5:Bs) (e6:List Bs) (e7:List GExp) (j8:Bs) (j9:Bool) (j10:Int):Option (GType × Int × Bs × Bool × Int):=types_judge_find_v2.rec Fuel.n locals1 e2 e3 e4 e5 e6 e7 j8 j9 j10
noncomputable def types_pure [Fuel] (name1:Bs) (locals2:List GField) (e3:Int) (e4:Int) (e5:Bs) (e6:Bs) (e7:List Bs) (e8:List GExp) (want9:Int) (want10:List GField):Option Int :=
 (types_judge_find_v2 locals2 e3 e4 e5 e6 e7 e8 name1 false 0).bind fun v11 =>
 bif (!eqZ v11.2.1 0) then
 some v11.2.1
 else
 (bif (!eqZ v11.2.2.2.2 0) then
  some 14
 else
  ((types_below v11.1.1 (v11.1.2.map (Uun 0)) want9 want10).bind fun b12 =>
  bif (!b12) then
  some 13
  else
  some 0))
noncomputable def types_moves.b1 [Fuel] (m1:Bs) (m3:List GField) (m4:List GExp) (v10:Int):Option ((Int) ⊕ ((Unit) ⊕ (Bs × Int))) :=
 bif (ltZ v10 (m3.length:Int)) then
 ((idx m3 v10).bind fun v11 =>
 (idx m4 v10).bind fun v12 =>
 (types_pure m1 [] v12.1 v12.2.1 v12.2.2.1 v12.2.2.2.1 v12.2.2.2.2.1 (v12.2.2.2.2.2.map (Uun 1)) v11.2.1 (v11.2.2.map (Uun 0))).bind fun p13 =>
 bif (!eqZ p13 0) then
  some (.inr (.inr (v11.1,p13)))
 else
  ((z64 (v10 + 1)).bind fun v14 =>
  some (.inl v14)))
 else
 some (.inr (.inl ()))
noncomputable def types_moves.b2 [Fuel] (m1:Bs) (m3:List GField) (m7:List GField) (m8:List GExp) (v15:Int):Option ((Int) ⊕ ((Unit) ⊕ (Bs × Int))) :=
 bif (ltZ v15 (m3.length:Int)) then
 ((idx m3 v15).bind fun v16 =>
 (idx m8 v15).bind fun v17 =>
 (types_pure m1 m7 v17.1 v17.2.1 v17.2.2.1 v17.2.2.2.1 v17.2.2.2.2.1 (v17.2.2.2.2.2.map (Uun 1)) v16.2.1 (v16.2.2.map (Uun 0))).bind fun p18 =>
 bif (!eqZ p18 0) then
  some (.inr (.inr (v16.1,p18)))
 else
  ((z64 (v15 + 1)).bind fun v19 =>
  some (.inl v19)))
 else
 some (.inr (.inl ()))
noncomputable def types_moves.b3 [Fuel] (m1:Bs) (m3:List GField) (m7:List GField) (m9:List GExp) (v20:Int):Option ((Int) ⊕ (Bs × Int)) :=
 bif (ltZ v20 (m7.length:Int)) then
 ((idx m7 v20).bind fun v21 =>
 (idx m9 v20).bind fun v22 =>
 (types_pure m1 m3 v22.1 v22.2.1 v22.2.2.1 v22.2.2.2.1 v22.2.2.2.2.1 (v22.2.2.2.2.2.map (Uun 1)) v21.2.1 (v21.2.2.map (Uun 0))).bind fun p23 =>
 bif (!eqZ p23 0) then
  some (.inr (v21.1,p23))
 else
  ((z64 (v20 + 1)).bind fun v24 =>
  some (.inl v24)))
 else
 some (.inr (([]:Bs),0))
noncomputable def types_moves.j1 [Fuel] (m1:Bs) (m3:List GField) (m7:List GField) (m9:List GExp):Option (Bs × Int) :=
 loopF (fun x=>types_moves.b3 m1 m3 m7 m9 x) 0
noncomputable def types_moves.j2 [Fuel] (m1:Bs) (m3:List GField) (m6:Bool) (m7:List GField) (m8:List GExp) (m9:List GExp):Option (Bs × Int) :=
 bif (!m6) then
 some (([]:Bs),0)
 else
 ((loopF (fun x=>types_moves.b2 m1 m3 m7 m8 x) 0).bind fun x=>match x with
 | .inl x =>
  types_moves.j1 m1 m3 m7 m9
 | .inr r=>some r)
noncomputable def types_moves [Fuel] (m1:Bs) (m2:List Bs) (m3:List GField) (m4:List GExp) (m5:List GFunc) (m6:Bool) (m7:List GField) (m8:List GExp) (m9:List GExp):Option (Bs × Int) :=
 (loopF (fun x=>types_moves.b1 m1 m3 m4 x) 0).bind fun x=>match x with
 | .inl x =>
 types_moves.j2 m1 m3 m6 m7 m8 m9
 | .inr r=>some r
noncomputable def types_Check.j1 [Fuel] (v5:Int) (v6:Bs) (v7:Bool):Option ((Int) ⊕ ((Unit) ⊕ (Bs × Int))) :=
 bif v7 then
 some (.inr (.inr (v6,12)))
 else
 ((z64 (v5 + 1)).bind fun v8 =>
 some (.inl v8))
noncomputable def types_Check.b1 [Fuel] (m1:GModule) (n3:Bs × (List Bs) × (List GField) × (List GExp) × (List GFunc) × Bool × (List GField) × (List GExp) × (List GExp) × Int × List (Bs × GFace)) (v5:Int):Option ((Int) ⊕ ((Unit) ⊕ (Bs × Int))) :=
 bif (ltZ v5 (m1.2.1.length:Int)) then
 ((idx m1.2.1 v5).bind fun v6 =>
 (bif (!(lookM n3.2.2.2.2.2.2.2.2.2.2 v6).isSome) then
  some true
 else
  some (decide (v6 = m1.1))).bind fun x =>
 types_Check.j1 v5 v6 x)
 else
 some (.inr (.inl ()))
noncomputable def types_Check.b2 [Fuel] (m1:GModule) (v10:Int) (j11:Bs) (j12:List Bs) (j13:List GField) (j14:List GExp) (j15:List GFunc) (j16:Bool) (j17:List GField) (j18:List GExp) (j19:List GExp) (j20:Int) (v21:List (Bs × GFace)):Option ((Int × Bs × (List Bs) × (List GField) × (List GExp) × (List GFunc) × Bool × (List GField) × (List GExp) × (List GExp) × Int × List (Bs × GFace)) ⊕ (Bs × Int)) :=
 bif (ltZ v10 (m1.2.2.2.2.1.length:Int)) then
 ((idx m1.2.2.2.2.1 v10).bind fun v22 =>
 (types_judge_find (v22.2.2.1.map (Uun 0)) v22.2.2.2.2.2.1 v22.2.2.2.2.2.2.1 v22.2.2.2.2.2.2.2.1 v22.2.2.2.2.2.2.2.2.1 v22.2.2.2.2.2.2.2.2.2.1 (v22.2.2.2.2.2.2.2.2.2.2.map (Uun 1)) j11 j12 j13 j14 j15 j16 j17 j18 j19 0 v21).bind fun f23 =>
 bif (!eqZ f23.2.1 0) then
  some (.inr (v22.1,f23.2.1))
 else
  ((types_below f23.1.1 (f23.1.2.map (Uun 0)) v22.2.2.2.1.1 (v22.2.2.2.1.2.map (Uun 0))).bind fun b24 =>
  bif (!b24) then
  some (.inr (v22.1,13))
  else
  (bif (!eqZ (anI .i64 f23.2.2.2.2.2.2.2.2.2.2.2.1 v22.2.2.2.2.1) 0) then
   some (.inr (v22.1,14))
  else
   ((z64 (v10 + 1)).bind fun v25 =>
   some (.inl (v25,f23.2.2.1,f23.2.2.2.1,f23.2.2.2.2.1,f23.2.2.2.2.2.1,f23.2.2.2.2.2.2.1,f23.2.2.2.2.2.2.2.1,f23.2.2.2.2.2.2.2.2.1,f23.2.2.2.2.2.2.2.2.2.1,f23.2.2.2.2.2.2.2.2.2.2.1,f23.2.2.2.2.2.2.2.2.2.2.2.1,f23.2.2.2.2.2.2.2.2.2.2.2.2))))))
 else
 some (.inr (([]:Bs),0))
noncomputable def types_Check.j2 [Fuel] (m1:GModule) (n3:Bs × (List Bs) × (List GField) × (List GExp) × (List GFunc) × Bool × (List GField) × (List GExp) × (List GExp) × Int × List (Bs × GFace)):Option (Bs × Int) :=
 (types_moves m1.1 m1.2.1 (m1.2.2.1.map (Uun 0)) (m1.2.2.2.1.map (Uun 1)) m1.2.2.2.2.1 m1.2.2.2.2.2.1 (m1.2.2.2.2.2.2.1.map (Uun 0)) (m1.2.2.2.2.2.2.2.1.map (Uun 1)) (m1.2.2.2.2.2.2.2.2.map (Uun 1))).bind fun m9 =>
 bif (!eqZ m9.2 0) then
 some (m9.1,m9.2)
 else
 (loopF (fun x=>types_Check.b2 m1 x.1 x.2.1 x.2.2.1 x.2.2.2.1 x.2.2.2.2.1 x.2.2.2.2.2.1 x.2.2.2.2.2.2.1 x.2.2.2.2.2.2.2.1 x.2.2.2.2.2.2.2.2.1 x.2.2.2.2.2.2.2.2.2.1 x.2.2.2.2.2.2.2.2.2.2.1 x.2.2.2.2.2.2.2.2.2.2.2) (0,n3.1,n3.2.1,n3.2.2.1,n3.2.2.2.1,n3.2.2.2.2.1,n3.2.2.2.2.2.1,n3.2.2.2.2.2.2.1,n3.2.2.2.2.2.2.2.1,n3.2.2.2.2.2.2.2.2.1,n3.2.2.2.2.2.2.2.2.2.1,n3.2.2.2.2.2.2.2.2.2.2))
noncomputable def types_Check [Fuel] (m1:GModule) (faces2:List GFace):Option (Bs × Int) :=
 orT (
 (types_newJudge m1.1 m1.2.1 (m1.2.2.1.map (Uun 0)) (m1.2.2.2.1.map (Uun 1)) m1.2.2.2.2.1 m1.2.2.2.2.2.1 (m1.2.2.2.2.2.2.1.map (Uun 0)) (m1.2.2.2.2.2.2.2.1.map (Uun 1)) (m1.2.2.2.2.2.2.2.2.map (Uun 1)) faces2).bind fun n3 =>
 (syntax_Right m1.1 m1.2.1 (m1.2.2.1.map (Uun 0)) (m1.2.2.2.1.map (Uun 1)) m1.2.2.2.2.1 m1.2.2.2.2.2.1 (m1.2.2.2.2.2.2.1.map (Uun 0)) (m1.2.2.2.2.2.2.2.1.map (Uun 1)) (m1.2.2.2.2.2.2.2.2.map (Uun 1))).bind fun r4 =>
 bif (!r4) then
  some (([]:Bs),1)
 else
  ((loopF (fun x=>types_Check.b1 m1 n3 x) 0).bind fun x=>match x with
  | .inl x =>
  types_Check.j2 m1 n3
  | .inr r=>some r)) (
 (types_newJudge_v2 m1.1 m1.2.1 (m1.2.2.1.map (Uun 0)) (m1.2.2.2.1.map (Uun 1)) m1.2.2.2.2.1 m1.2.2.2.2.2.1 (m1.2.2.2.2.2.2.1.map (Uun 0)) (m1.2.2.2.2.2.2.2.1.map (Uun 1)) (m1.2.2.2.2.2.2.2.2.map (Uun 1)) faces2).bind fun v26 =>
 some (([]:Bs),1))
noncomputable def types_Sub [Fuel] (a1:Int) (a2:List GField) (b3:Int) (b4:List GField):Option Bool :=
 (types_Right a1 a2).bind fun r5 =>
 bif r5 then
 ((types_Right b3 b4).bind fun r6 =>
 bif r6 then
  ((types_below a1 a2 b3 b4).bind fun b7 =>
  some b7)
 else
  some false)
 else
 some false
noncomputable def ladingref15_SameFields.j1 [Fuel] (i3:Int) (v9:Bool):Option ((Int) ⊕ (Bool)) :=
 bif v9 then
 some (.inr false)
 else
 ((z64 (i3 + 1)).bind fun v10 =>
 some (.inl v10))
noncomputable def ladingref15_SameFields.b1 [Fuel] (Gr:Int → List GField → Int → List GField → Option Bool) (a1:List GField) (b2:List GField) (i3:Int):Option ((Int) ⊕ (Bool)) :=
 bif (ltZ i3 (a1.length:Int)) then
 (((idx a1 i3).bind fun v4 =>
 (idx b2 i3).bind fun v5 =>
 bif (!decide (v4.1 = v5.1)) then
  some true
 else
  ((idx a1 i3).bind fun v6 =>
  (idx b2 i3).bind fun v7 =>
  (Gr v6.2.1 (v6.2.2.map (Uun 0)) v7.2.1 (v7.2.2.map (Uun 0))).bind fun s8 =>
  some (!s8))).bind fun x =>
 ladingref15_SameFields.j1 i3 x)
 else
 some (.inr true)
noncomputable def ladingref15_SameFields [Fuel] (Gr:Int → List GField → Int → List GField → Option Bool) (a1:List GField) (b2:List GField):Option Bool :=
 bif (!eqZ (a1.length:Int) (b2.length:Int)) then
 some false
 else
 (loopF (fun x=>ladingref15_SameFields.b1 Gr a1 b2 x) 0)
noncomputable def ladingref15_SameType.body [Fuel] (Gr:Int → List GField → Int → List GField → Option Bool) (a1:Int) (a2:List GField) (b3:Int) (b4:List GField):Option Bool :=
 bif (eqZ a1 b3) then
 ((ladingref15_SameFields Gr a2 b4).bind fun s5 =>
 some s5)
 else
 some false
noncomputable def ladingref15_SameType.rec [Fuel]:Nat → Int → List GField → Int → List GField → Option Bool
 | 0=>fun _ _ _ _=>none
 | n + 1=>ladingref15_SameType.body (ladingref15_SameType.rec n)
noncomputable def ladingref15_SameType [Fuel] (a1:Int) (a2:List GField) (b3:Int) (b4:List GField):Option Bool:=ladingref15_SameType.rec Fuel.n a1 a2 b3 b4
noncomputable def ladinglaw16_same [Fuel] (a1:Int) (a2:List GField) (b3:Int) (b4:List GField):Option Bool :=
 (ladingref15_SameType a1 a2 b3 b4).bind fun s5 =>
 some s5
noncomputable def ladinglaw16_small [Fuel]:Option Bool :=
 (ladinglaw16_rec ([(([120]:Bs),0,[]),(([121]:Bs),1,[])]:List GField)).bind fun r1 =>
 (ladinglaw16_rec ([(([120]:Bs),0,[]),(([122]:Bs),0,[])]:List GField)).bind fun r2 =>
 (types_Join r1.1 (r1.2.map (Uun 0)) r2.1 (r2.2.map (Uun 0))).bind fun j3 =>
 (ladinglaw16_rec ([(([120]:Bs),0,[])]:List GField)).bind fun r4 =>
 (ladinglaw16_rec ([(([120]:Bs),1,[])]:List GField)).bind fun r5 =>
 (types_Meet r4.1 (r4.2.map (Uun 0)) r5.1 (r5.2.map (Uun 0))).bind fun m6 =>
 (ladinglaw16_num 1).bind fun n7 =>
 (ladinglaw16_num 2).bind fun n8 =>
 (ladinglaw16_num 3).bind fun n9 =>
 (types_TypeOf (([109]:Bs),[],[],[],[],false,[],[],[]) [] ([(([98]:Bs),1,[])]:List GField) 11 0 ([]:Bs) ([]:Bs) [] ([(2,0,([98]:Bs),([]:Bs),[],[]),(13,0,([]:Bs),([]:Bs),([([120]:Bs),([121]:Bs)]:List Bs),(([(n7.1,n7.2.1,n7.2.2.1,n7.2.2.2.1,n7.2.2.2.2.1,((n7.2.2.2.2.2.map (Uun 1)).map (Umk 1))),(n8.1,n8.2.1,n8.2.2.1,n8.2.2.2.1,n8.2.2.2.2.1,((n8.2.2.2.2.2.map (Uun 1)).map (Umk 1)))]:List GExp).map (Umk 1))),(13,0,([]:Bs),([]:Bs),([([120]:Bs)]:List Bs),(([(n9.1,n9.2.1,n9.2.2.1,n9.2.2.2.1,n9.2.2.2.2.1,((n9.2.2.2.2.2.map (Uun 1)).map (Umk 1)))]:List GExp).map (Umk 1)))]:List GExp)).bind fun t10 =>
 (ladinglaw16_num 1).bind fun n11 =>
 (types_Check (([109]:Bs),[],[],[],([(([102]:Bs),false,[],(0,[]),0,16,2,([]:Bs),([]:Bs),[],(([(n11.1,n11.2.1,n11.2.2.1,n11.2.2.2.1,n11.2.2.2.2.1,((n11.2.2.2.2.2.map (Uun 1)).map (Umk 1)))]:List GExp).map (Umk 1)))]:List GFunc),false,[],[],[]) []).bind fun c12 =>
 (ladinglaw16_rec ([(([120]:Bs),0,[]),(([121]:Bs),1,[])]:List GField)).bind fun r13 =>
 (ladinglaw16_rec ([(([120]:Bs),0,[])]:List GField)).bind fun r14 =>
 (types_Sub r13.1 (r13.2.map (Uun 0)) r14.1 (r14.2.map (Uun 0))).bind fun s15 =>
 bif s15 then
 ((ladinglaw16_rec ([(([120]:Bs),0,[])]:List GField)).bind fun r16 =>
 (ladinglaw16_rec ([(([120]:Bs),0,[]),(([121]:Bs),1,[])]:List GField)).bind fun r17 =>
 (types_Sub r16.1 (r16.2.map (Uun 0)) r17.1 (r17.2.map (Uun 0))).bind fun s18 =>
 bif (!s18) then
  (bif j3.2 then
  ((ladinglaw16_rec ([(([120]:Bs),0,[])]:List GField)).bind fun r19 =>
  (ladinglaw16_same j3.1.1 (j3.1.2.map (Uun 0)) r19.1 (r19.2.map (Uun 0))).bind fun s20 =>
  bif s20 then
   (bif (!m6.2) then
   ((ladinglaw16_rec ([(([120]:Bs),0,[])]:List GField)).bind fun r21 =>
   (ladinglaw16_same t10.1.1 (t10.1.2.map (Uun 0)) r21.1 (r21.2.map (Uun 0))).bind fun s22 =>
   bif s22 then
    (bif (eqZ t10.2.1 0) then
    (bif (eqZ t10.2.2 0) then
     (bif (decide (c12.1 = ([102]:Bs))) then
     some (eqZ c12.2 14)
     else
     some false)
    else
     some false)
    else
    some false)
   else
    some false)
   else
   some false)
  else
   some false)
  else
  some false)
 else
  some false)
 else
 some false
noncomputable def ladinglaw16_nodes.j1 [Fuel] (Gr:Int → List GField → Int → Int → Option Int) (t2:List GField) (most3:Int) (levels4:Int) (n7:Int) (i8:Int) (v9:Bool):Option ((Int × Int) ⊕ (Int)) :=
 bif v9 then
 ((idx t2 i8).bind fun v10 =>
 bif (ltZ 60 (v10.1.length:Int)) then
  ((z64 (most3 + 1)).bind fun v11 =>
  some (.inr v11))
 else
  ((idx t2 i8).bind fun v12 =>
  (z64 (most3 - n7)).bind fun v13 =>
  (z64 (levels4 - 1)).bind fun v14 =>
  (Gr v12.2.1 (v12.2.2.map (Uun 0)) v13 v14).bind fun n15 =>
  (z64 (n7 + n15)).bind fun v16 =>
  (z64 (i8 + 1)).bind fun v17 =>
  some (.inl (v16,v17))))
 else
 some (.inr n7)
noncomputable def ladinglaw16_nodes.b1 [Fuel] (Gr:Int → List GField → Int → Int → Option Int) (t2:List GField) (most3:Int) (levels4:Int) (n7:Int) (i8:Int):Option ((Int × Int) ⊕ (Int)) :=
 (bif (ltZ i8 (t2.length:Int)) then
 some (leZ n7 most3)
 else
 some false).bind fun x =>
 ladinglaw16_nodes.j1 Gr t2 most3 levels4 n7 i8 x
noncomputable def ladinglaw16_nodes.j2 [Fuel] (Gr:Int → List GField → Int → Int → Option Int) (t2:List GField) (most3:Int) (levels4:Int) (v5:Bool):Option Int :=
 bif v5 then
 ((z64 (most3 + 1)).bind fun v6 =>
 some v6)
 else
 (loopF (fun x=>ladinglaw16_nodes.b1 Gr t2 most3 levels4 x.1 x.2) (1,0))
noncomputable def ladinglaw16_nodes.body [Fuel] (Gr:Int → List GField → Int → Int → Option Int) (t1:Int) (t2:List GField) (most3:Int) (levels4:Int):Option Int :=
 (bif (ltZ levels4 1) then
 some true
 else
 some (ltZ 12 (t2.length:Int))).bind fun x =>
 ladinglaw16_nodes.j2 Gr t2 most3 levels4 x
noncomputable def ladinglaw16_nodes.rec [Fuel]:Nat → Int → List GField → Int → Int → Option Int
 | 0=>fun _ _ _ _=>none
 | n + 1=>ladinglaw16_nodes.body (ladinglaw16_nodes.rec n)
noncomputable def ladinglaw16_nodes [Fuel] (t1:Int) (t2:List GField) (most3:Int) (levels4:Int):Option Int:=ladinglaw16_nodes.rec Fuel.n t1 t2 most3 levels4
noncomputable def ladinglaw16_light.b1 [Fuel] (l1:List GType) (i2:Int):Option ((Int) ⊕ (Bool)) :=
 bif (ltZ i2 (l1.length:Int)) then
 ((idx l1 i2).bind fun v3 =>
 (ladinglaw16_nodes v3.1 (v3.2.map (Uun 0)) 40 6).bind fun n4 =>
 bif (ltZ 40 n4) then
  some (.inr false)
 else
  ((z64 (i2 + 1)).bind fun v5 =>
  some (.inl v5)))
 else
 some (.inr true)
noncomputable def ladinglaw16_light [Fuel] (l1:List GType):Option Bool :=
 loopF (fun x=>ladinglaw16_light.b1 l1 x) 0
noncomputable def ladinglaw16_TypesBounds.j1 [Fuel] (a1:GType) (b2:GType) (c3:GType) (s4:Bool) (m6:GType × Bool) (j7:GType × Bool) (lower24:Bool) (upper27:Bool):Option Bool :=
 bif s4 then
 (bif (!lower24) then
  (bif (!upper27) then
  ((types_Right a1.1 (a1.2.map (Uun 0))).bind fun r28 =>
  bif r28 then
   ((types_Right b2.1 (b2.2.map (Uun 0))).bind fun r29 =>
   bif r29 then
   some (j7.2 == (eqZ a1.1 b2.1))
   else
   some (j7.2 == false))
  else
   some (j7.2 == false))
  else
  (bif j7.2 then
   ((types_Sub j7.1.1 (j7.1.2.map (Uun 0)) c3.1 (c3.2.map (Uun 0))).bind fun s30 =>
   bif s30 then
   ((types_Right a1.1 (a1.2.map (Uun 0))).bind fun r31 =>
   bif r31 then
    ((types_Right b2.1 (b2.2.map (Uun 0))).bind fun r32 =>
    bif r32 then
    some (j7.2 == (eqZ a1.1 b2.1))
    else
    some (j7.2 == false))
   else
    some (j7.2 == false))
   else
   some false)
  else
   some false))
 else
  (bif m6.2 then
  ((types_Sub c3.1 (c3.2.map (Uun 0)) m6.1.1 (m6.1.2.map (Uun 0))).bind fun s33 =>
  bif s33 then
   (bif (!upper27) then
   ((types_Right a1.1 (a1.2.map (Uun 0))).bind fun r34 =>
   bif r34 then
    ((types_Right b2.1 (b2.2.map (Uun 0))).bind fun r35 =>
    bif r35 then
    some (j7.2 == (eqZ a1.1 b2.1))
    else
    some (j7.2 == false))
   else
    some (j7.2 == false))
   else
   (bif j7.2 then
    ((types_Sub j7.1.1 (j7.1.2.map (Uun 0)) c3.1 (c3.2.map (Uun 0))).bind fun s36 =>
    bif s36 then
    ((types_Right a1.1 (a1.2.map (Uun 0))).bind fun r37 =>
    bif r37 then
     ((types_Right b2.1 (b2.2.map (Uun 0))).bind fun r38 =>
     bif r38 then
     some (j7.2 == (eqZ a1.1 b2.1))
     else
     some (j7.2 == false))
    else
     some (j7.2 == false))
    else
    some false)
   else
    some false))
  else
   some false)
  else
  some false))
 else
 some false
noncomputable def ladinglaw16_TypesBounds.j2 [Fuel] (a1:GType) (b2:GType) (c3:GType) (s4:Bool) (m6:GType × Bool) (j7:GType × Bool) (lower24:Bool):Option Bool :=
 ((types_Sub a1.1 (a1.2.map (Uun 0)) c3.1 (c3.2.map (Uun 0))).bind fun s25 =>
 bif s25 then
 ((types_Sub b2.1 (b2.2.map (Uun 0)) c3.1 (c3.2.map (Uun 0))).bind fun s26 =>
 some s26)
 else
 some false).bind fun x =>
 ladinglaw16_TypesBounds.j1 a1 b2 c3 s4 m6 j7 lower24 x
noncomputable def ladinglaw16_TypesBounds.j3 [Fuel] (a1:GType) (b2:GType) (c3:GType) (s4:Bool) (m6:GType × Bool) (j7:GType × Bool) (v21:Bool):Option Bool :=
 bif v21 then
 some false
 else
 (((types_Sub c3.1 (c3.2.map (Uun 0)) a1.1 (a1.2.map (Uun 0))).bind fun s22 =>
 bif s22 then
  ((types_Sub c3.1 (c3.2.map (Uun 0)) b2.1 (b2.2.map (Uun 0))).bind fun s23 =>
  some s23)
 else
  some false).bind fun x =>
 ladinglaw16_TypesBounds.j2 a1 b2 c3 s4 m6 j7 x)
noncomputable def ladinglaw16_TypesBounds [Fuel] (a1:GType) (b2:GType) (c3:GType):Option Bool :=
 (ladinglaw16_small).bind fun s4 =>
 (ladinglaw16_light ([(a1.1,((a1.2.map (Uun 0)).map (Umk 0))),(b2.1,((b2.2.map (Uun 0)).map (Umk 0))),(c3.1,((c3.2.map (Uun 0)).map (Umk 0)))]:List GType)).bind fun l5 =>
 bif (!l5) then
 some s4
 else
 ((types_Meet a1.1 (a1.2.map (Uun 0)) b2.1 (b2.2.map (Uun 0))).bind fun m6 =>
 (types_Join a1.1 (a1.2.map (Uun 0)) b2.1 (b2.2.map (Uun 0))).bind fun j7 =>
 (types_Meet b2.1 (b2.2.map (Uun 0)) a1.1 (a1.2.map (Uun 0))).bind fun m8 =>
 (types_Join b2.1 (b2.2.map (Uun 0)) a1.1 (a1.2.map (Uun 0))).bind fun j9 =>
 (bif (!(m6.2 == m8.2)) then
  some true
 else
  (bif (!(j7.2 == j9.2)) then
  some true
  else
  ((ladinglaw16_same m6.1.1 (m6.1.2.map (Uun 0)) m8.1.1 (m8.1.2.map (Uun 0))).bind fun s10 =>
  bif (!s10) then
   some true
  else
   (bif m6.2 then
   ((types_Sub m6.1.1 (m6.1.2.map (Uun 0)) a1.1 (a1.2.map (Uun 0))).bind fun s11 =>
   bif s11 then
    ((types_Sub m6.1.1 (m6.1.2.map (Uun 0)) b2.1 (b2.2.map (Uun 0))).bind fun s12 =>
    bif (!s12) then
    some true
    else
    (bif j7.2 then
     ((types_Sub a1.1 (a1.2.map (Uun 0)) j7.1.1 (j7.1.2.map (Uun 0))).bind fun s13 =>
     bif s13 then
     ((types_Sub b2.1 (b2.2.map (Uun 0)) j7.1.1 (j7.1.2.map (Uun 0))).bind fun s14 =>
     bif (!s14) then
      some true
     else
      (bif j7.2 then
      ((ladinglaw16_same j7.1.1 (j7.1.2.map (Uun 0)) j9.1.1 (j9.1.2.map (Uun 0))).bind fun s15 =>
      some (!s15))
      else
      some false))
     else
     some true)
    else
     (bif j7.2 then
     ((ladinglaw16_same j7.1.1 (j7.1.2.map (Uun 0)) j9.1.1 (j9.1.2.map (Uun 0))).bind fun s16 =>
     some (!s16))
     else
     some false)))
   else
    some true)
   else
   (bif j7.2 then
    ((types_Sub a1.1 (a1.2.map (Uun 0)) j7.1.1 (j7.1.2.map (Uun 0))).bind fun s17 =>
    bif s17 then
    ((types_Sub b2.1 (b2.2.map (Uun 0)) j7.1.1 (j7.1.2.map (Uun 0))).bind fun s18 =>
    bif (!s18) then
     some true
    else
     (bif j7.2 then
     ((ladinglaw16_same j7.1.1 (j7.1.2.map (Uun 0)) j9.1.1 (j9.1.2.map (Uun 0))).bind fun s19 =>
     some (!s19))
     else
     some false))
    else
    some true)
   else
    (bif j7.2 then
    ((ladinglaw16_same j7.1.1 (j7.1.2.map (Uun 0)) j9.1.1 (j9.1.2.map (Uun 0))).bind fun s20 =>
    some (!s20))
    else
    some false)))))).bind fun x =>
 ladinglaw16_TypesBounds.j3 a1 b2 c3 s4 m6 j7 x)
end Go.Proofs.Ytaocfjifacnokaa
