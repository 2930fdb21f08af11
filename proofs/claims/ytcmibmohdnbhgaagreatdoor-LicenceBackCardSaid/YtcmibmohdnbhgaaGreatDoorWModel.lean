import Derived.Test.YtcmibmohdnbhgaaGreatDoorEL
import Derived.Test.YtcmibmohdnbhgaaGreatDoorProg
import Derived.KernelRfl
namespace Go.Proofs.YtcmibmohdnbhgaaGreatDoor
open Go.Lad
set_option linter.unusedVariables false
abbrev GLic:Type:=Int × Bs × List LicT
abbrev GMutex:Type:=Int × Int
abbrev GParser:Type:=(List Bs) × Int
noncomputable def strings_NewReplacer [Fuel] (oldnew1:List Bs):Option (Int × Int × Int × List Bs) :=
 (remZ .i64 (oldnew1.length:Int) 2).bind fun v2 =>
 bif (eqZ v2 1) then
 none
 else
 ((app? [] oldnew1).bind fun l3 =>
 some (0,0,0,l3))
noncomputable def strings_Replacer_Replace [Fuel] (s:Bs) (a b c:Int) (l:List Bs):Option Bs:=replF a b l s
noncomputable def strings_Split [Fuel] (s:Bs) (sep:Bs):Option (List Bs):=splitF s sep
noncomputable def licence_tokens_skip.j1 [Fuel] (t2:List Bs) (v4:Bool):Option (Bool × List Bs) :=
 bif v4 then
 ((cut t2 1 (t2.length:Int)).bind fun l5 =>
 some (true,l5))
 else
 some (false,t2)
noncomputable def licence_tokens_skip [Fuel] (s1:Bs) (t2:List Bs):Option (Bool × List Bs) :=
 (bif (ltZ 0 (t2.length:Int)) then
 ((idx t2 0).bind fun v3 =>
 some (decide (v3 = s1)))
 else
 some false).bind fun x =>
 licence_tokens_skip.j1 t2 x
noncomputable def strings_Trim [Fuel] (s:Bs) (cs:Bs):Option Bs:=trimF s cs
noncomputable def strings_ContainsFunc [Fuel] (s:Bs):Option Bool:=contFF s
noncomputable def licence_named.j1 [Fuel] (s1:Bs) (v4:Bool):Option Bool :=
 bif v4 then
 some false
 else
 ((strings_Trim s1 ([97,98,99,100,101,102,103,104,105,106,107,108,109,110,111,112,113,114,115,116,117,118,119,120,121,122,48,49,50,51,52,53,54,55,56,57,45,46]:Bs)).bind fun t5 =>
 bif (decide (t5 = ([]:Bs))) then
  ((strings_ContainsFunc s1).bind fun c6 =>
  some (!c6))
 else
  some false)
noncomputable def licence_named [Fuel] (s1:Bs):Option Bool :=
 (bif (decide (s1 = ([]:Bs))) then
 some true
 else
 (bif (ltZ 20 (s1.length:Int)) then
  some true
 else
  (bif (decide (s1 = ([97,110,100]:Bs))) then
  some true
  else
  (bif (decide (s1 = ([111,114]:Bs))) then
   some true
  else
   ((bAt s1 0).bind fun c2 =>
   bif (ltZ c2 97) then
   some true
   else
   ((bAt s1 0).bind fun c3 =>
   some (ltZ 122 c3))))))).bind fun x =>
 licence_named.j1 s1 x
noncomputable def licence_tokens_word.j1 [Fuel] (t1:List Bs) (v4:Bool):Option (Bs × Bool × List Bs) :=
 bif v4 then
 some (([]:Bs),false,t1)
 else
 ((idx t1 0).bind fun v5 =>
 (cut t1 1 (t1.length:Int)).bind fun l6 =>
 some (v5,true,l6))
noncomputable def licence_tokens_word [Fuel] (t1:List Bs):Option (Bs × Bool × List Bs) :=
 (bif (eqZ (t1.length:Int) 0) then
 some true
 else
 ((idx t1 0).bind fun v2 =>
 (licence_named v2).bind fun n3 =>
 some (!n3))).bind fun x =>
 licence_tokens_word.j1 t1 x
noncomputable def licence_parser_part [Fuel] (Gr:List Bs → Option (GLic × Bool × List Bs)) (p1:List Bs):Option (GLic × Bool × List Bs) :=
 (licence_tokens_skip ([40]:Bs) p1).bind fun s2 =>
 bif s2.1 then
 ((Gr s2.2).bind fun a3 =>
 bif a3.2.1 then
  ((licence_tokens_skip ([41]:Bs) a3.2.2).bind fun s4 =>
  some ((a3.1.1,a3.1.2.1,((a3.1.2.2.map (Uun 2)).map (Umk 2))),s4.1,s4.2))
 else
  some ((a3.1.1,a3.1.2.1,((a3.1.2.2.map (Uun 2)).map (Umk 2))),false,a3.2.2))
 else
 ((licence_tokens_word s2.2).bind fun w5 =>
 some ((0,w5.1,[]),w5.2.1,w5.2.2))
noncomputable def licence_parser_several_v2.j1 [Fuel] (Gr:List Bs → Option (GLic × Bool × List Bs)) (op1:Int) (e6:Int) (e7:Bs) (v8:List GLic) (v10:Bool) (p11:List Bs):Option ((Bool × (List Bs) × Int × Bs × List GLic) ⊕ ((Int × Bs × (List Bs) × List GLic) ⊕ (GLic × Bool × List Bs))) :=
 bif v10 then
 ((licence_parser_part Gr p11).bind fun p12 =>
 bif (!p12.2.1) then
  some (.inr (.inr ((0,([]:Bs),[]),false,p12.2.2)))
 else
  (bif (eqZ p12.1.1 op1) then
  ((app? v8 (p12.1.2.2.map (Uun 2))).bind fun l13 =>
  some (.inl (false,p12.2.2,e6,e7,l13)))
  else
  ((app? v8 ([(p12.1.1,p12.1.2.1,((p12.1.2.2.map (Uun 2)).map (Umk 2)))]:List GLic)).bind fun l14 =>
  some (.inl (false,p12.2.2,e6,e7,l14)))))
 else
 some (.inr (.inl (e6,e7,p11,v8)))
noncomputable def licence_parser_several_v2.b1 [Fuel] (Gr:List Bs → Option (GLic × Bool × List Bs)) (op1:Int) (between2:Bs) (first4:Bool) (p5:List Bs) (e6:Int) (e7:Bs) (v8:List GLic):Option ((Bool × (List Bs) × Int × Bs × List GLic) ⊕ ((Int × Bs × (List Bs) × List GLic) ⊕ (GLic × Bool × List Bs))) :=
 (bif first4 then
 some (true,p5)
 else
 ((licence_tokens_skip between2 p5).bind fun s9 =>
 some (s9.1,s9.2))).bind fun x =>
 licence_parser_several_v2.j1 Gr op1 e6 e7 v8 x.1 x.2
noncomputable def licence_parser_several_v2.j2 [Fuel] (e15:Int) (e16:Bs) (v17:List Bs) (v18:List GLic):Option (GLic × Bool × List Bs) :=
 bif (eqZ (v18.length:Int) 1) then
 ((idx v18 0).bind fun _19 =>
 (idx v18 0).bind fun v20 =>
 some ((v20.1,v20.2.1,((v20.2.2.map (Uun 2)).map (Umk 2))),true,v17))
 else
 some ((e15,e16,(v18.map (Umk 2))),true,v17)
noncomputable def licence_parser_several_v2 [Fuel] (Gr:List Bs → Option (GLic × Bool × List Bs)) (op1:Int) (between2:Bs) (p3:List Bs):Option (GLic × Bool × List Bs) :=
 (loopF (fun x=>licence_parser_several_v2.b1 Gr op1 between2 x.1 x.2.1 x.2.2.1 x.2.2.2.1 x.2.2.2.2) (true,p3,op1,([]:Bs),[])).bind fun x=>match x with
 | .inl x =>
 licence_parser_several_v2.j2 x.1 x.2.1 x.2.2.1 x.2.2.2
 | .inr r=>some r
noncomputable def licence_parser_sequence [Fuel] (Gr:List Bs → Option (GLic × Bool × List Bs)) (p1:List Bs):Option (GLic × Bool × List Bs) :=
 (licence_parser_several_v2 Gr 1 ([97,110,100]:Bs) p1).bind fun v2 =>
 some ((v2.1.1,v2.1.2.1,((v2.1.2.2.map (Uun 2)).map (Umk 2))),v2.2.1,v2.2.2)
noncomputable def licence_parser_several.j1 [Fuel] (Gr:List Bs → Option (GLic × Bool × List Bs)) (op1:Int) (e6:Int) (e7:Bs) (v8:List GLic) (v10:Bool) (p11:List Bs):Option ((Bool × (List Bs) × Int × Bs × List GLic) ⊕ ((Int × Bs × (List Bs) × List GLic) ⊕ (GLic × Bool × List Bs))) :=
 bif v10 then
 ((licence_parser_sequence Gr p11).bind fun s12 =>
 bif (!s12.2.1) then
  some (.inr (.inr ((0,([]:Bs),[]),false,s12.2.2)))
 else
  (bif (eqZ s12.1.1 op1) then
  ((app? v8 (s12.1.2.2.map (Uun 2))).bind fun l13 =>
  some (.inl (false,s12.2.2,e6,e7,l13)))
  else
  ((app? v8 ([(s12.1.1,s12.1.2.1,((s12.1.2.2.map (Uun 2)).map (Umk 2)))]:List GLic)).bind fun l14 =>
  some (.inl (false,s12.2.2,e6,e7,l14)))))
 else
 some (.inr (.inl (e6,e7,p11,v8)))
noncomputable def licence_parser_several.b1 [Fuel] (Gr:List Bs → Option (GLic × Bool × List Bs)) (op1:Int) (between2:Bs) (first4:Bool) (p5:List Bs) (e6:Int) (e7:Bs) (v8:List GLic):Option ((Bool × (List Bs) × Int × Bs × List GLic) ⊕ ((Int × Bs × (List Bs) × List GLic) ⊕ (GLic × Bool × List Bs))) :=
 (bif first4 then
 some (true,p5)
 else
 ((licence_tokens_skip between2 p5).bind fun s9 =>
 some (s9.1,s9.2))).bind fun x =>
 licence_parser_several.j1 Gr op1 e6 e7 v8 x.1 x.2
noncomputable def licence_parser_several.j2 [Fuel] (e15:Int) (e16:Bs) (v17:List Bs) (v18:List GLic):Option (GLic × Bool × List Bs) :=
 bif (eqZ (v18.length:Int) 1) then
 ((idx v18 0).bind fun _19 =>
 (idx v18 0).bind fun v20 =>
 some ((v20.1,v20.2.1,((v20.2.2.map (Uun 2)).map (Umk 2))),true,v17))
 else
 some ((e15,e16,(v18.map (Umk 2))),true,v17)
noncomputable def licence_parser_several [Fuel] (Gr:List Bs → Option (GLic × Bool × List Bs)) (op1:Int) (between2:Bs) (p3:List Bs):Option (GLic × Bool × List Bs) :=
 (loopF (fun x=>licence_parser_several.b1 Gr op1 between2 x.1 x.2.1 x.2.2.1 x.2.2.2.1 x.2.2.2.2) (true,p3,op1,([]:Bs),[])).bind fun x=>match x with
 | .inl x =>
 licence_parser_several.j2 x.1 x.2.1 x.2.2.1 x.2.2.2
 | .inr r=>some r
noncomputable def licence_parser_alternatives.body [Fuel] (Gr:List Bs → Option (GLic × Bool × List Bs)) (p1:List Bs):Option (GLic × Bool × List Bs) :=
 (licence_parser_several Gr 2 ([111,114]:Bs) p1).bind fun s2 =>
 some ((s2.1.1,s2.1.2.1,((s2.1.2.2.map (Uun 2)).map (Umk 2))),s2.2.1,s2.2.2)
noncomputable def licence_parser_alternatives.rec [Fuel]:Nat → List Bs → Option (GLic × Bool × List Bs)
 | 0=>fun _=>none
 | n + 1=>licence_parser_alternatives.body (licence_parser_alternatives.rec n)
noncomputable def licence_parser_alternatives [Fuel] (p1:List Bs):Option (GLic × Bool × List Bs):=licence_parser_alternatives.rec Fuel.n p1
noncomputable def licence_size.j1 [Fuel] (v6:Bool):Option Int :=
 bif v6 then
 some 17
 else
 some 1
noncomputable def licence_size.b1 [Fuel] (Gr:Int → Bs → List GLic → Int → Option Int) (e1:Int) (e3:List GLic) (levels4:Int) (n8:Int) (v9:Int):Option ((Int × Int) ⊕ (Int)) :=
 bif (ltZ v9 (e3.length:Int)) then
 ((idx e3 v9).bind fun v10 =>
 bif (eqZ v10.1 e1) then
  some (.inr 17)
 else
  ((z64 (levels4 + 1)).bind fun v11 =>
  (Gr v10.1 v10.2.1 (v10.2.2.map (Uun 2)) v11).bind fun s12 =>
  (z64 (n8 + s12)).bind fun v13 =>
  bif (ltZ 16 v13) then
  some (.inr v13)
  else
  ((z64 (v9 + 1)).bind fun v14 =>
  some (.inl (v13,v14)))))
 else
 some (.inr n8)
noncomputable def licence_size.j2 [Fuel] (Gr:Int → Bs → List GLic → Int → Option Int) (e1:Int) (e3:List GLic) (levels4:Int) (v7:Bool):Option Int :=
 bif v7 then
 some 17
 else
 (loopF (fun x=>licence_size.b1 Gr e1 e3 levels4 x.1 x.2) (0,0))
noncomputable def licence_size.body [Fuel] (Gr:Int → Bs → List GLic → Int → Option Int) (e1:Int) (e2:Bs) (e3:List GLic) (levels4:Int):Option Int :=
 bif (eqZ e1 0) then
 (((licence_named e2).bind fun n5 =>
 bif (!n5) then
  some true
 else
  some (ltZ 0 (e3.length:Int))).bind fun x =>
 licence_size.j1 x)
 else
 ((bif (!eqZ e1 1) then
  (bif (!eqZ e1 2) then
  some true
  else
  (bif (!decide (e2 = ([]:Bs))) then
   some true
  else
   (bif (ltZ (e3.length:Int) 2) then
   some true
   else
   some (ltZ 16 levels4))))
 else
  (bif (!decide (e2 = ([]:Bs))) then
  some true
  else
  (bif (ltZ (e3.length:Int) 2) then
   some true
  else
   some (ltZ 16 levels4)))).bind fun x =>
 licence_size.j2 Gr e1 e3 levels4 x)
noncomputable def licence_size.rec [Fuel]:Nat → Int → Bs → List GLic → Int → Option Int
 | 0=>fun _ _ _ _=>none
 | n + 1=>licence_size.body (licence_size.rec n)
noncomputable def licence_size [Fuel] (e1:Int) (e2:Bs) (e3:List GLic) (levels4:Int):Option Int:=licence_size.rec Fuel.n e1 e2 e3 levels4
noncomputable def licence_Right [Fuel] (e1:Int) (e2:Bs) (e3:List GLic):Option Bool :=
 (licence_size e1 e2 e3 0).bind fun s4 =>
 some (leZ s4 16)
noncomputable def licence_Parse.b1 [Fuel] (s4:List Bs) (v5:Int) (l6:List Bs):Option ((Int × List Bs) ⊕ (List Bs)) :=
 bif (ltZ v5 (s4.length:Int)) then
 ((idx s4 v5).bind fun v7 =>
 bif (!decide (v7 = ([]:Bs))) then
  ((app? l6 ([v7]:List Bs)).bind fun l8 =>
  (z64 (v5 + 1)).bind fun v9 =>
  some (.inl (v9,l8)))
 else
  ((z64 (v5 + 1)).bind fun v10 =>
  some (.inl (v10,l6))))
 else
 some (.inr l6)
noncomputable def licence_Parse.j1 [Fuel] (a12:GLic × Bool × List Bs) (v13:Bool):Option (GLic × Int) :=
 bif v13 then
 some ((0,([]:Bs),[]),2)
 else
 ((licence_Right a12.1.1 a12.1.2.1 (a12.1.2.2.map (Uun 2))).bind fun r14 =>
 bif (!r14) then
  some ((0,([]:Bs),[]),6)
 else
  some ((a12.1.1,a12.1.2.1,((a12.1.2.2.map (Uun 2)).map (Umk 2))),0))
noncomputable def licence_Parse.j2 [Fuel] (l11:List Bs):Option (GLic × Int) :=
 (licence_parser_alternatives l11).bind fun a12 =>
 (bif (!a12.2.1) then
 some true
 else
 some (ltZ 0 (a12.2.2.length:Int))).bind fun x =>
 licence_Parse.j1 a12 x
noncomputable def licence_Parse [Fuel] (s1:Bs):Option (GLic × Int) :=
 bif (ltZ 1000 (s1.length:Int)) then
 some ((0,([]:Bs),[]),6)
 else
 (((strings_NewReplacer ([([40]:Bs),([32,40,32]:Bs),([41]:Bs),([32,41,32]:Bs)]:List Bs)).bind fun n2 =>
 (strings_Replacer_Replace s1 n2.1 n2.2.1 n2.2.2.1 n2.2.2.2).bind fun r3 =>
 (strings_Split r3 ([32]:Bs)).bind fun s4 =>
 loopF (fun x=>licence_Parse.b1 s4 x.1 x.2) (0,[])).bind fun x =>
 licence_Parse.j2 x)
noncomputable def strings_Join [Fuel] (l:List Bs) (sep:Bs):Option Bs:=joinF l sep
noncomputable def licence_write.b1 [Fuel] (Gr:Int → Bs → List GLic → Option Bs) (e3:List GLic) (v4:Int) (l5:List Bs):Option ((Int × List Bs) ⊕ (List Bs)) :=
 bif (ltZ v4 (e3.length:Int)) then
 ((idx e3 v4).bind fun v6 =>
 (Gr v6.1 v6.2.1 (v6.2.2.map (Uun 2))).bind fun w7 =>
 bif (eqZ v6.1 2) then
  ((cat? ([40]:Bs) w7).bind fun s8 =>
  (cat? s8 ([41]:Bs)).bind fun s9 =>
  (app? l5 ([s9]:List Bs)).bind fun l10 =>
  (z64 (v4 + 1)).bind fun v11 =>
  some (.inl (v11,l10)))
 else
  ((app? l5 ([w7]:List Bs)).bind fun l12 =>
  (z64 (v4 + 1)).bind fun v13 =>
  some (.inl (v13,l12))))
 else
 some (.inr l5)
noncomputable def licence_write.j1 [Fuel] (e1:Int) (l14:List Bs):Option Bs :=
 bif (eqZ e1 1) then
 ((strings_Join l14 ([32,97,110,100,32]:Bs)).bind fun j15 =>
 some j15)
 else
 ((strings_Join l14 ([32,111,114,32]:Bs)).bind fun j16 =>
 some j16)
noncomputable def licence_write.body [Fuel] (Gr:Int → Bs → List GLic → Option Bs) (e1:Int) (e2:Bs) (e3:List GLic):Option Bs :=
 bif (eqZ e1 0) then
 some e2
 else
 ((loopF (fun x=>licence_write.b1 Gr e3 x.1 x.2) (0,[])).bind fun x =>
 licence_write.j1 e1 x)
noncomputable def licence_write.rec [Fuel]:Nat → Int → Bs → List GLic → Option Bs
 | 0=>fun _ _ _=>none
 | n + 1=>licence_write.body (licence_write.rec n)
noncomputable def licence_write [Fuel] (e1:Int) (e2:Bs) (e3:List GLic):Option Bs:=licence_write.rec Fuel.n e1 e2 e3
noncomputable def licence_Print [Fuel] (e1:Int) (e2:Bs) (e3:List GLic):Option (Bs × Int) :=
 (licence_Right e1 e2 e3).bind fun r4 =>
 bif (!r4) then
 some (([]:Bs),1)
 else
 ((licence_write e1 e2 e3).bind fun w5 =>
 some (w5,0))
noncomputable def slices_Grow_string_string [Fuel] (n1:Int):Option (List Bs) :=
 bif (ltZ n1 0) then
 none
 else
 ((z64 ((0:Int) - 0)).bind fun v2 =>
 (z64 (n1 - v2)).bind fun v3 =>
 bif (ltZ 0 v3) then
  ((need ((0:Int) = 0 ∧ (0:Int) = 0)).bind fun _4 =>
  (i1Need v3).bind fun _5 =>
  (cut (repT v3 (([]:Bs):Bs)) 0 0).bind fun l6 =>
  some l6)
 else
  some [])
noncomputable def slices_Concat_string_string.b1 [Fuel] (slices1:List (List Bs)) (size2:Int) (v3:Int):Option ((Int × Int) ⊕ (Int)) :=
 bif (ltZ v3 (slices1.length:Int)) then
 ((idx slices1 v3).bind fun v4 =>
 (z64 (size2 + (v4.length:Int))).bind fun v5 =>
 bif (ltZ v5 0) then
  none
 else
  ((z64 (v3 + 1)).bind fun v6 =>
  some (.inl (v5,v6))))
 else
 some (.inr size2)
noncomputable def slices_Concat_string_string.b2 [Fuel] (slices1:List (List Bs)) (v9:Int) (newslice10:List Bs):Option ((Int × List Bs) ⊕ (List Bs)) :=
 bif (ltZ v9 (slices1.length:Int)) then
 ((idx slices1 v9).bind fun v11 =>
 (app? newslice10 v11).bind fun l12 =>
 (z64 (v9 + 1)).bind fun v13 =>
 some (.inl (v13,l12)))
 else
 some (.inr newslice10)
noncomputable def slices_Concat_string_string.j1 [Fuel] (slices1:List (List Bs)) (size7:Int):Option (List Bs) :=
 (slices_Grow_string_string size7).bind fun s8 =>
 loopF (fun x=>slices_Concat_string_string.b2 slices1 x.1 x.2) (0,s8)
noncomputable def slices_Concat_string_string [Fuel] (slices1:List (List Bs)):Option (List Bs) :=
 (loopF (fun x=>slices_Concat_string_string.b1 slices1 x.1 x.2) (0,0)).bind fun x =>
 slices_Concat_string_string.j1 slices1 x
noncomputable def slices_Sort_string [Fuel] (l:List Bs):Option (List Bs):=sortS l
noncomputable def slices_Compact_string [Fuel] (l:List Bs):Option (List Bs):=compS l
noncomputable def cmp_isNaN_int [Fuel] (x1:Int):Option Bool :=
 some (!eqZ x1 x1)
noncomputable def cmp_Compare_int [Fuel] (x1:Int) (y2:Int):Option Int :=
 (cmp_isNaN_int x1).bind fun i3 =>
 (cmp_isNaN_int y2).bind fun i4 =>
 bif i3 then
 (bif i4 then
  some 0
 else
  some (-1))
 else
 (bif i4 then
  some 1
 else
  (bif (ltZ x1 y2) then
  some (-1)
  else
  (bif (ltZ y2 x1) then
   some 1
  else
   some 0)))
noncomputable def cmp_isNaN_string [Fuel] (x1:Bs):Option Bool :=
 some (!decide (x1 = x1))
noncomputable def cmp_Compare_string [Fuel] (x1:Bs) (y2:Bs):Option Int :=
 (cmp_isNaN_string x1).bind fun s3 =>
 (cmp_isNaN_string y2).bind fun s4 =>
 bif s3 then
 (bif s4 then
  some 0
 else
  some (-1))
 else
 (bif s4 then
  some 1
 else
  (bif (Op.bytesLess x1 y2) then
  some (-1)
  else
  (bif (!(Op.bytesLess x1 y2 || decide (x1 = y2))) then
   some 1
  else
   some 0)))
noncomputable def slices_Compare_string_string.b1 [Fuel] (s1'1:List Bs) (s2'2:List Bs) (v3:Int):Option ((Int) ⊕ ((Unit) ⊕ (Int))) :=
 bif (ltZ v3 (s1'1.length:Int)) then
 ((idx s1'1 v3).bind fun v4 =>
 bif (leZ (s2'2.length:Int) v3) then
  some (.inr (.inr 1))
 else
  ((idx s2'2 v3).bind fun v5 =>
  (cmp_Compare_string v4 v5).bind fun s6 =>
  bif (!eqZ s6 0) then
  some (.inr (.inr s6))
  else
  ((z64 (v3 + 1)).bind fun v7 =>
  some (.inl v7))))
 else
 some (.inr (.inl ()))
noncomputable def slices_Compare_string_string.j1 [Fuel] (s1'1:List Bs) (s2'2:List Bs):Option Int :=
 bif (ltZ (s1'1.length:Int) (s2'2.length:Int)) then
 some (-1)
 else
 some 0
noncomputable def slices_Compare_string_string [Fuel] (s1'1:List Bs) (s2'2:List Bs):Option Int :=
 (loopF (fun x=>slices_Compare_string_string.b1 s1'1 s2'2 x) 0).bind fun x=>match x with
 | .inl x =>
 slices_Compare_string_string.j1 s1'1 s2'2
 | .inr r=>some r
noncomputable def cmp_Or_int.b1 [Fuel] (vals1:List Int) (v2:Int):Option ((Int) ⊕ (Int)) :=
 bif (ltZ v2 (vals1.length:Int)) then
 ((idx vals1 v2).bind fun v3 =>
 bif (!eqZ v3 0) then
  some (.inr v3)
 else
  ((z64 (v2 + 1)).bind fun v4 =>
  some (.inl v4)))
 else
 some (.inr 0)
noncomputable def cmp_Or_int [Fuel] (vals1:List Int):Option Int :=
 loopF (fun x=>cmp_Or_int.b1 vals1 x) 0
noncomputable def licence_least_1 [Fuel] (a1:List Bs) (b2:List Bs):Option Int :=
 (cmp_Compare_int (a1.length:Int) (b2.length:Int)).bind fun i3 =>
 (slices_Compare_string_string a1 b2).bind fun s4 =>
 (cmp_Or_int ([i3,s4]:List Int)).bind fun i5 =>
 some i5
noncomputable def slices_SortFunc [Fuel] (l:List (List Bs)):Option (List (List Bs)):=sortBy licence_least_1 l
noncomputable def slices_Index_string_string.b1 [Fuel] (s1:List Bs) (p2:Bs) (v3:Int):Option ((Int) ⊕ (Int)) :=
 bif (ltZ v3 (s1.length:Int)) then
 ((idx s1 v3).bind fun v4 =>
 bif (decide (p2 = v4)) then
  some (.inr v3)
 else
  ((z64 (v3 + 1)).bind fun v5 =>
  some (.inl v5)))
 else
 some (.inr (-1))
noncomputable def slices_Index_string_string [Fuel] (s1:List Bs) (p2:Bs):Option Int :=
 loopF (fun x=>slices_Index_string_string.b1 s1 p2 x) 0
noncomputable def slices_Contains_string_string [Fuel] (s1:List Bs) (p2:Bs):Option Bool :=
 (slices_Index_string_string s1 p2).bind fun s3 =>
 some (leZ 0 s3)
noncomputable def licence_inside_1 [Fuel] (s1:Bs) (p2:List Bs):Option Bool :=
 (slices_Contains_string_string p2 s1).bind fun s3 =>
 some (!s3)
noncomputable def slices_IndexFunc_string_string_v2.b1 [Fuel] (s1:List Bs) (p2:List Bs) (v3:Int):Option ((Int) ⊕ (Int)) :=
 bif (ltZ v3 (s1.length:Int)) then
 ((idx s1 v3).bind fun v4 =>
 (licence_inside_1 v4 p2).bind fun v'5 =>
 bif v'5 then
  some (.inr v3)
 else
  ((z64 (v3 + 1)).bind fun v6 =>
  some (.inl v6)))
 else
 some (.inr (-1))
noncomputable def slices_IndexFunc_string_string_v2 [Fuel] (s1:List Bs) (p2:List Bs):Option Int :=
 loopF (fun x=>slices_IndexFunc_string_string_v2.b1 s1 p2 x) 0
noncomputable def slices_ContainsFunc_string_string_v2 [Fuel] (s1:List Bs) (p2:List Bs):Option Bool :=
 (slices_IndexFunc_string_string_v2 s1 p2).bind fun v3 =>
 some (leZ 0 v3)
noncomputable def licence_inside [Fuel] (a1:List Bs) (b2:List Bs):Option Bool :=
 (slices_ContainsFunc_string_string_v2 a1 b2).bind fun v3 =>
 some (!v3)
noncomputable def licence_least_2 [Fuel] (o1:List Bs) (p2:List Bs):Option Bool :=
 (licence_inside o1 p2).bind fun i3 =>
 some i3
noncomputable def slices_IndexFunc_string_string_v3.b1 [Fuel] (s1:List (List Bs)) (p2:List Bs) (v3:Int):Option ((Int) ⊕ (Int)) :=
 bif (ltZ v3 (s1.length:Int)) then
 ((idx s1 v3).bind fun _4 =>
 (idx s1 v3).bind fun v5 =>
 (licence_least_2 v5 p2).bind fun v'6 =>
 bif v'6 then
  some (.inr v3)
 else
  ((z64 (v3 + 1)).bind fun v7 =>
  some (.inl v7)))
 else
 some (.inr (-1))
noncomputable def slices_IndexFunc_string_string_v3 [Fuel] (s1:List (List Bs)) (p2:List Bs):Option Int :=
 loopF (fun x=>slices_IndexFunc_string_string_v3.b1 s1 p2 x) 0
noncomputable def slices_ContainsFunc_string_string_v3 [Fuel] (s1:List (List Bs)) (p2:List Bs):Option Bool :=
 (slices_IndexFunc_string_string_v3 s1 p2).bind fun v3 =>
 some (leZ 0 v3)
noncomputable def licence_least.b1 [Fuel] (s2:List (List Bs)) (v3:Int) (out4:List (List Bs)):Option ((Int × List (List Bs)) ⊕ ((List (List Bs)) × List (List Bs))) :=
 bif (ltZ v3 (s2.length:Int)) then
 ((idx s2 v3).bind fun _5 =>
 (idx s2 v3).bind fun v6 =>
 (slices_ContainsFunc_string_string_v3 out4 v6).bind fun v7 =>
 bif (!v7) then
  ((app? out4 ([v6]:List (List Bs))).bind fun l8 =>
  (z64 (v3 + 1)).bind fun v9 =>
  some (.inl (v9,l8)))
 else
  ((z64 (v3 + 1)).bind fun v10 =>
  some (.inl (v10,out4))))
 else
 some (.inr (out4,s2))
noncomputable def licence_least [Fuel] (l1:List (List Bs)):Option ((List (List Bs)) × List (List Bs)) :=
 (slices_SortFunc l1).bind fun s2 =>
 loopF (fun x=>licence_least.b1 s2 x.1 x.2) (0,[])
noncomputable def licence_sets.b1 [Fuel] (s8:List (List Bs)) (v11:Int) (v14:List Bs) (v15:Int) (next16:List (List Bs)):Option ((Int × List (List Bs)) ⊕ ((Int × List (List Bs)) ⊕ ((Int × List (List Bs)) ⊕ (List (List Bs))))) :=
 bif (ltZ v15 (s8.length:Int)) then
 ((idx s8 v15).bind fun v17 =>
 (slices_Concat_string_string ([v14,v17]:List (List Bs))).bind fun s18 =>
 (slices_Sort_string s18).bind fun s19 =>
 (slices_Compact_string s19).bind fun s20 =>
 (app? next16 ([s20]:List (List Bs))).bind fun l21 =>
 (z64 (v15 + 1)).bind fun v22 =>
 some (.inl (v22,l21)))
 else
 (Option.map Sum.inr ((z64 (v11 + 1)).bind fun v23 =>
 some (.inl (v23,next16))))
noncomputable def licence_sets.b2 [Fuel] (v5:Int) (out6:List (List Bs)) (s8:List (List Bs)) (v11:Int) (next12:List (List Bs)):Option ((Int × List (List Bs)) ⊕ ((Int × List (List Bs)) ⊕ (List (List Bs)))) :=
 bif (ltZ v11 (out6.length:Int)) then
 ((idx out6 v11).bind fun _13 =>
 (idx out6 v11).bind fun v14 =>
 loopF (fun x=>licence_sets.b1 s8 v11 v14 x.1 x.2) (0,next12))
 else
 (Option.map Sum.inr ((z64 (v5 + 1)).bind fun v24 =>
 some (.inl (v24,next12))))
noncomputable def licence_sets.b3 [Fuel] (Gr:Int → Bs → List GLic → Option (List (List Bs))) (e1:Int) (e3:List GLic) (v5:Int) (out6:List (List Bs)):Option ((Int × List (List Bs)) ⊕ (List (List Bs))) :=
 bif (ltZ v5 (e3.length:Int)) then
 ((idx e3 v5).bind fun v7 =>
 (Gr v7.1 v7.2.1 (v7.2.2.map (Uun 2))).bind fun s8 =>
 bif (eqZ e1 2) then
  ((app? out6 s8).bind fun l9 =>
  (z64 (v5 + 1)).bind fun v10 =>
  some (.inl (v10,l9)))
 else
  (loopF (fun x=>licence_sets.b2 v5 out6 s8 x.1 x.2) (0,[])))
 else
 some (.inr out6)
noncomputable def licence_sets.j1 [Fuel] (out25:List (List Bs)):Option (List (List Bs)) :=
 (licence_least out25).bind fun l26 =>
 some l26.1
noncomputable def licence_sets.j2 [Fuel] (Gr:Int → Bs → List GLic → Option (List (List Bs))) (e1:Int) (e3:List GLic) (out4:List (List Bs)):Option (List (List Bs)) :=
 (loopF (fun x=>licence_sets.b3 Gr e1 e3 x.1 x.2) (0,out4)).bind fun x =>
 licence_sets.j1 x
noncomputable def licence_sets.body [Fuel] (Gr:Int → Bs → List GLic → Option (List (List Bs))) (e1:Int) (e2:Bs) (e3:List GLic):Option (List (List Bs)) :=
 bif (eqZ e1 0) then
 some ([([e2]:List Bs)]:List (List Bs))
 else
 ((bif (eqZ e1 2) then
  some []
 else
  some ([[]]:List (List Bs))).bind fun x =>
 licence_sets.j2 Gr e1 e3 x)
noncomputable def licence_sets.rec [Fuel]:Nat → Int → Bs → List GLic → Option (List (List Bs))
 | 0=>fun _ _ _=>none
 | n + 1=>licence_sets.body (licence_sets.rec n)
noncomputable def licence_sets [Fuel] (e1:Int) (e2:Bs) (e3:List GLic):Option (List (List Bs)):=licence_sets.rec Fuel.n e1 e2 e3
noncomputable def licence_Normal [Fuel] (e1:Int) (e2:Bs) (e3:List GLic):Option ((List (List Bs)) × Int) :=
 (licence_Right e1 e2 e3).bind fun r4 =>
 bif (!r4) then
 some ([],1)
 else
 ((licence_sets e1 e2 e3).bind fun s5 =>
 some (s5,0))
noncomputable def licence_holds_1 [Fuel] (Gr:Int → Bs → List GLic → List Bs → Option Bool) (x1:Int) (x2:Bs) (x3:List GLic) (p4:List Bs):Option Bool :=
 (Gr x1 x2 x3 p4).bind fun h5 =>
 some h5
noncomputable def slices_IndexFunc_api_Lic_api_Lic.b1 [Fuel] (Gr:Int → Bs → List GLic → List Bs → Option Bool) (s1:List GLic) (p2:List Bs) (v3:Int):Option ((Int) ⊕ (Int)) :=
 bif (ltZ v3 (s1.length:Int)) then
 ((idx s1 v3).bind fun v4 =>
 (licence_holds_1 Gr v4.1 v4.2.1 (v4.2.2.map (Uun 2)) p2).bind fun v'5 =>
 bif v'5 then
  some (.inr v3)
 else
  ((z64 (v3 + 1)).bind fun v6 =>
  some (.inl v6)))
 else
 some (.inr (-1))
noncomputable def slices_IndexFunc_api_Lic_api_Lic [Fuel] (Gr:Int → Bs → List GLic → List Bs → Option Bool) (s1:List GLic) (p2:List Bs):Option Int :=
 loopF (fun x=>slices_IndexFunc_api_Lic_api_Lic.b1 Gr s1 p2 x) 0
noncomputable def slices_ContainsFunc_api_Lic_api_Lic [Fuel] (Gr:Int → Bs → List GLic → List Bs → Option Bool) (s1:List GLic) (p2:List Bs):Option Bool :=
 (slices_IndexFunc_api_Lic_api_Lic Gr s1 p2).bind fun l3 =>
 some (leZ 0 l3)
noncomputable def licence_holds_2 [Fuel] (Gr:Int → Bs → List GLic → List Bs → Option Bool) (x1:Int) (x2:Bs) (x3:List GLic) (p4:List Bs):Option Bool :=
 (licence_holds_1 Gr x1 x2 x3 p4).bind fun v'5 =>
 some (!v'5)
noncomputable def slices_IndexFunc_api_Lic_api_Lic_v2.b1 [Fuel] (Gr:Int → Bs → List GLic → List Bs → Option Bool) (s1:List GLic) (p2:List Bs) (v3:Int):Option ((Int) ⊕ (Int)) :=
 bif (ltZ v3 (s1.length:Int)) then
 ((idx s1 v3).bind fun v4 =>
 (licence_holds_2 Gr v4.1 v4.2.1 (v4.2.2.map (Uun 2)) p2).bind fun v'5 =>
 bif v'5 then
  some (.inr v3)
 else
  ((z64 (v3 + 1)).bind fun v6 =>
  some (.inl v6)))
 else
 some (.inr (-1))
noncomputable def slices_IndexFunc_api_Lic_api_Lic_v2 [Fuel] (Gr:Int → Bs → List GLic → List Bs → Option Bool) (s1:List GLic) (p2:List Bs):Option Int :=
 loopF (fun x=>slices_IndexFunc_api_Lic_api_Lic_v2.b1 Gr s1 p2 x) 0
noncomputable def slices_ContainsFunc_api_Lic_api_Lic_v2 [Fuel] (Gr:Int → Bs → List GLic → List Bs → Option Bool) (s1:List GLic) (p2:List Bs):Option Bool :=
 (slices_IndexFunc_api_Lic_api_Lic_v2 Gr s1 p2).bind fun v3 =>
 some (leZ 0 v3)
noncomputable def licence_holds.body [Fuel] (Gr:Int → Bs → List GLic → List Bs → Option Bool) (e1:Int) (e2:Bs) (e3:List GLic) (allowed4:List Bs):Option Bool :=
 bif (eqZ e1 0) then
 ((slices_Contains_string_string allowed4 e2).bind fun s5 =>
 some s5)
 else
 (bif (eqZ e1 2) then
  ((slices_ContainsFunc_api_Lic_api_Lic Gr e3 allowed4).bind fun l6 =>
  some l6)
 else
  ((slices_ContainsFunc_api_Lic_api_Lic_v2 Gr e3 allowed4).bind fun v7 =>
  some (!v7)))
noncomputable def licence_holds.rec [Fuel]:Nat → Int → Bs → List GLic → List Bs → Option Bool
 | 0=>fun _ _ _ _=>none
 | n + 1=>licence_holds.body (licence_holds.rec n)
noncomputable def licence_holds [Fuel] (e1:Int) (e2:Bs) (e3:List GLic) (allowed4:List Bs):Option Bool:=licence_holds.rec Fuel.n e1 e2 e3 allowed4
noncomputable def licence_Implies.b1 [Fuel] (b4:Int) (b5:Bs) (b6:List GLic) (s10:List (List Bs)) (v11:Int):Option ((Int) ⊕ (Bool × (List Bs) × Int)) :=
 bif (ltZ v11 (s10.length:Int)) then
 ((idx s10 v11).bind fun v12 =>
 (licence_holds b4 b5 b6 v12).bind fun h13 =>
 bif (!h13) then
  some (.inr (false,v12,0))
 else
  ((z64 (v11 + 1)).bind fun v14 =>
  some (.inl v14)))
 else
 some (.inr (true,[],0))
noncomputable def licence_Implies.j1 [Fuel] (a1:Int) (a2:Bs) (a3:List GLic) (b4:Int) (b5:Bs) (b6:List GLic) (v9:Bool):Option (Bool × (List Bs) × Int) :=
 bif v9 then
 some (false,[],1)
 else
 ((licence_sets a1 a2 a3).bind fun s10 =>
 loopF (fun x=>licence_Implies.b1 b4 b5 b6 s10 x) 0)
noncomputable def licence_Implies [Fuel] (a1:Int) (a2:Bs) (a3:List GLic) (b4:Int) (b5:Bs) (b6:List GLic):Option (Bool × (List Bs) × Int) :=
 ((licence_Right a1 a2 a3).bind fun r7 =>
 bif (!r7) then
 some true
 else
 ((licence_Right b4 b5 b6).bind fun r8 =>
 some (!r8))).bind fun x =>
 licence_Implies.j1 a1 a2 a3 b4 b5 b6 x
noncomputable def ladingref13_SameNames.b1 [Fuel] (a1:List Bs) (b2:List Bs) (i3:Int):Option ((Int) ⊕ (Bool)) :=
 bif (ltZ i3 (a1.length:Int)) then
 ((idx a1 i3).bind fun v4 =>
 (idx b2 i3).bind fun v5 =>
 bif (!decide (v4 = v5)) then
  some (.inr false)
 else
  ((z64 (i3 + 1)).bind fun v6 =>
  some (.inl v6)))
 else
 some (.inr true)
noncomputable def ladingref13_SameNames [Fuel] (a1:List Bs) (b2:List Bs):Option Bool :=
 bif (!eqZ (a1.length:Int) (b2.length:Int)) then
 some false
 else
 (loopF (fun x=>ladingref13_SameNames.b1 a1 b2 x) 0)
noncomputable def ladingref13_SameSets.b1 [Fuel] (a1:List (List Bs)) (b2:List (List Bs)) (i3:Int):Option ((Int) ⊕ (Bool)) :=
 bif (ltZ i3 (a1.length:Int)) then
 ((idx a1 i3).bind fun v4 =>
 (idx b2 i3).bind fun v5 =>
 (ladingref13_SameNames v4 v5).bind fun s6 =>
 bif (!s6) then
  some (.inr false)
 else
  ((z64 (i3 + 1)).bind fun v7 =>
  some (.inl v7)))
 else
 some (.inr true)
noncomputable def ladingref13_SameSets [Fuel] (a1:List (List Bs)) (b2:List (List Bs)):Option Bool :=
 bif (!eqZ (a1.length:Int) (b2.length:Int)) then
 some false
 else
 (loopF (fun x=>ladingref13_SameSets.b1 a1 b2 x) 0)
noncomputable def licence_Permits [Fuel] (e1:Int) (e2:Bs) (e3:List GLic) (allowed4:List Bs):Option Bool :=
 (licence_Right e1 e2 e3).bind fun r5 =>
 bif r5 then
 ((licence_holds e1 e2 e3 allowed4).bind fun h6 =>
 some h6)
 else
 some false
noncomputable def licence_Right_v2 [Fuel] (e1:GLic):Option Bool :=
 (licence_size e1.1 e1.2.1 (e1.2.2.map (Uun 2)) 0).bind fun s2 =>
 some (leZ s2 16)
noncomputable def ladinglaw13_small.j1 [Fuel] (p5:GLic × Int) (i6:Bool × (List Bs) × Int) (i7:Bool × (List Bs) × Int) (one9:Bool):Option Bool :=
 bif one9 then
 (bif i6.1 then
  (bif (eqZ i6.2.2 0) then
  (bif (!i7.1) then
   (bif (eqZ i7.2.2 0) then
   ((ladingref13_SameNames i7.2.1 ([([98,115,100]:Bs)]:List Bs)).bind fun s10 =>
   bif s10 then
    ((licence_Permits p5.1.1 p5.1.2.1 (p5.1.2.2.map (Uun 2)) ([([98,115,100]:Bs)]:List Bs)).bind fun p11 =>
    bif p11 then
    ((licence_Right_v2 (1,([]:Bs),[])).bind fun v12 =>
    some (!v12))
    else
    some false)
   else
    some false)
   else
   some false)
  else
   some false)
  else
  some false)
 else
  some false)
 else
 some false
noncomputable def ladinglaw13_small [Fuel]:Option Bool :=
 (licence_Parse ([40,109,105,116,32,111,114,40,98,115,100,41,41,97,110,100,32,103,112,108,45,50,46,48]:Bs)).bind fun p1 =>
 (licence_Print p1.1.1 p1.1.2.1 (p1.1.2.2.map (Uun 2))).bind fun p2 =>
 (licence_Normal p1.1.1 p1.1.2.1 (p1.1.2.2.map (Uun 2))).bind fun n3 =>
 (licence_Parse ([109,105,116]:Bs)).bind fun p4 =>
 (licence_Parse ([109,105,116,32,111,114,32,98,115,100]:Bs)).bind fun p5 =>
 (licence_Implies p4.1.1 p4.1.2.1 (p4.1.2.2.map (Uun 2)) p5.1.1 p5.1.2.1 (p5.1.2.2.map (Uun 2))).bind fun i6 =>
 (licence_Implies p5.1.1 p5.1.2.1 (p5.1.2.2.map (Uun 2)) p4.1.1 p4.1.2.1 (p4.1.2.2.map (Uun 2))).bind fun i7 =>
 (bif (eqZ p1.2 0) then
 (bif (eqZ p2.2 0) then
  (bif (decide (p2.1 = ([40,109,105,116,32,111,114,32,98,115,100,41,32,97,110,100,32,103,112,108,45,50,46,48]:Bs))) then
  (bif (eqZ n3.2 0) then
   ((ladingref13_SameSets n3.1 ([([([98,115,100]:Bs),([103,112,108,45,50,46,48]:Bs)]:List Bs),([([103,112,108,45,50,46,48]:Bs),([109,105,116]:Bs)]:List Bs)]:List (List Bs))).bind fun s8 =>
   some s8)
  else
   some false)
  else
  some false)
 else
  some false)
 else
 some false).bind fun x =>
 ladinglaw13_small.j1 p5 i6 i7 x
noncomputable def ladinglaw13_nodes.j1 [Fuel] (Gr:Int → Bs → List GLic → Int → Int → Option Int) (e3:List GLic) (most4:Int) (levels5:Int) (n8:Int) (i9:Int) (v10:Bool):Option ((Int × Int) ⊕ (Int)) :=
 bif v10 then
 ((idx e3 i9).bind fun v11 =>
 (z64 (most4 - n8)).bind fun v12 =>
 (z64 (levels5 - 1)).bind fun v13 =>
 (Gr v11.1 v11.2.1 (v11.2.2.map (Uun 2)) v12 v13).bind fun n14 =>
 (z64 (n8 + n14)).bind fun v15 =>
 (z64 (i9 + 1)).bind fun v16 =>
 some (.inl (v15,v16)))
 else
 some (.inr n8)
noncomputable def ladinglaw13_nodes.b1 [Fuel] (Gr:Int → Bs → List GLic → Int → Int → Option Int) (e3:List GLic) (most4:Int) (levels5:Int) (n8:Int) (i9:Int):Option ((Int × Int) ⊕ (Int)) :=
 (bif (ltZ i9 (e3.length:Int)) then
 some (leZ n8 most4)
 else
 some false).bind fun x =>
 ladinglaw13_nodes.j1 Gr e3 most4 levels5 n8 i9 x
noncomputable def ladinglaw13_nodes.j2 [Fuel] (Gr:Int → Bs → List GLic → Int → Int → Option Int) (e3:List GLic) (most4:Int) (levels5:Int) (v6:Bool):Option Int :=
 bif v6 then
 ((z64 (most4 + 1)).bind fun v7 =>
 some v7)
 else
 (loopF (fun x=>ladinglaw13_nodes.b1 Gr e3 most4 levels5 x.1 x.2) (1,0))
noncomputable def ladinglaw13_nodes.body [Fuel] (Gr:Int → Bs → List GLic → Int → Int → Option Int) (e1:Int) (e2:Bs) (e3:List GLic) (most4:Int) (levels5:Int):Option Int :=
 (bif (ltZ levels5 1) then
 some true
 else
 some (ltZ 60 (e2.length:Int))).bind fun x =>
 ladinglaw13_nodes.j2 Gr e3 most4 levels5 x
noncomputable def ladinglaw13_nodes.rec [Fuel]:Nat → Int → Bs → List GLic → Int → Int → Option Int
 | 0=>fun _ _ _ _ _=>none
 | n + 1=>ladinglaw13_nodes.body (ladinglaw13_nodes.rec n)
noncomputable def ladinglaw13_nodes [Fuel] (e1:Int) (e2:Bs) (e3:List GLic) (most4:Int) (levels5:Int):Option Int:=ladinglaw13_nodes.rec Fuel.n e1 e2 e3 most4 levels5
noncomputable def ladinglaw13_light [Fuel] (e1:Int) (e2:Bs) (e3:List GLic):Option Bool :=
 (ladinglaw13_nodes e1 e2 e3 60 24).bind fun n4 =>
 some (leZ n4 60)
noncomputable def ladinglaw13_short.j1 [Fuel] (l1:List Bs) (i2:Int) (v3:Bool):Option ((Int) ⊕ (Bool)) :=
 bif v3 then
 ((idx l1 i2).bind fun v4 =>
 bif (ltZ 60 (v4.length:Int)) then
  some (.inr false)
 else
  ((z64 (i2 + 1)).bind fun v5 =>
  some (.inl v5)))
 else
 some (.inr (leZ (l1.length:Int) 40))
noncomputable def ladinglaw13_short.b1 [Fuel] (l1:List Bs) (i2:Int):Option ((Int) ⊕ (Bool)) :=
 (bif (ltZ i2 (l1.length:Int)) then
 some (ltZ i2 41)
 else
 some false).bind fun x =>
 ladinglaw13_short.j1 l1 i2 x
noncomputable def ladinglaw13_short [Fuel] (l1:List Bs):Option Bool :=
 loopF (fun x=>ladinglaw13_short.b1 l1 x) 0
noncomputable def ladingref13_tokens.j1 [Fuel] (s1:Bs) (i2:Int) (out3:List Bs) (k11:Int) (v15:Bool):Option ((Int) ⊕ ((Int × List Bs) ⊕ (List Bs))) :=
 bif v15 then
 ((z64 (k11 + 1)).bind fun v16 =>
 some (.inl v16))
 else
 (Option.map Sum.inr ((cut s1 i2 k11).bind fun s17 =>
 (app? out3 ([s17]:List Bs)).bind fun l18 =>
 some (.inl (k11,l18))))
noncomputable def ladingref13_tokens.b1 [Fuel] (s1:Bs) (i2:Int) (out3:List Bs) (k11:Int):Option ((Int) ⊕ ((Int × List Bs) ⊕ (List Bs))) :=
 (bif (ltZ k11 (s1.length:Int)) then
 ((bAt s1 k11).bind fun c12 =>
 bif (!eqZ c12 32) then
  ((bAt s1 k11).bind fun c13 =>
  bif (!eqZ c13 40) then
  ((bAt s1 k11).bind fun c14 =>
  some (!eqZ c14 41))
  else
  some false)
 else
  some false)
 else
 some false).bind fun x =>
 ladingref13_tokens.j1 s1 i2 out3 k11 x
noncomputable def ladingref13_tokens.j2 [Fuel] (s1:Bs) (i2:Int) (out3:List Bs) (v6:Bool):Option ((Int × List Bs) ⊕ (List Bs)) :=
 bif v6 then
 ((z64 (i2 + 1)).bind fun v7 =>
 (cut s1 i2 v7).bind fun s8 =>
 (app? out3 ([s8]:List Bs)).bind fun l9 =>
 (z64 (i2 + 1)).bind fun v10 =>
 some (.inl (v10,l9)))
 else
 (loopF (fun x=>ladingref13_tokens.b1 s1 i2 out3 x) i2)
noncomputable def ladingref13_tokens.b2 [Fuel] (s1:Bs) (i2:Int) (out3:List Bs):Option ((Int × List Bs) ⊕ (List Bs)) :=
 bif (ltZ i2 (s1.length:Int)) then
 ((bAt s1 i2).bind fun c4 =>
 bif (eqZ c4 32) then
  ((z64 (i2 + 1)).bind fun v5 =>
  some (.inl (v5,out3)))
 else
  ((bif (eqZ c4 40) then
  some (eqZ c4 40)
  else
  some (eqZ c4 41)).bind fun x =>
  ladingref13_tokens.j2 s1 i2 out3 x))
 else
 some (.inr out3)
noncomputable def ladingref13_tokens [Fuel] (s1:Bs):Option (List Bs) :=
 loopF (fun x=>ladingref13_tokens.b2 s1 x.1 x.2) (0,[])
noncomputable def ladingref13_parser_next.j1 [Fuel] (p2:Int) (p3:List Bs) (v6:Bool):Option (Bool × Int × List Bs) :=
 bif v6 then
 ((z64 (p2 + 1)).bind fun v7 =>
 some (true,v7,p3))
 else
 some (false,p2,p3)
noncomputable def ladingref13_parser_next [Fuel] (s1:Bs) (p2:Int) (p3:List Bs):Option (Bool × Int × List Bs) :=
 (bif (ltZ p2 (p3.length:Int)) then
 ((idx p3 p2).bind fun _4 =>
 (idx p3 p2).bind fun v5 =>
 some (decide (v5 = s1)))
 else
 some false).bind fun x =>
 ladingref13_parser_next.j1 p2 p3 x
noncomputable def ladingref13_name.j1 [Fuel] (i3:Int) (v7:Bool):Option ((Int) ⊕ (Bool)) :=
 bif v7 then
 some (.inr false)
 else
 ((z64 (i3 + 1)).bind fun v8 =>
 some (.inl v8))
noncomputable def ladingref13_name.j2 [Fuel] (i3:Int) (letter5:Bool) (other6:Bool):Option ((Int) ⊕ (Bool)) :=
 (bif (!letter5) then
 (bif (eqZ i3 0) then
  some true
 else
  some (!other6))
 else
 some false).bind fun x =>
 ladingref13_name.j1 i3 x
noncomputable def ladingref13_name.j3 [Fuel] (i3:Int) (c4:Int) (letter5:Bool):Option ((Int) ⊕ (Bool)) :=
 (bif (leZ 48 c4) then
 (bif (leZ c4 57) then
  some true
 else
  (bif (eqZ c4 45) then
  some true
  else
  some (eqZ c4 46)))
 else
 (bif (eqZ c4 45) then
  some true
 else
  some (eqZ c4 46))).bind fun x =>
 ladingref13_name.j2 i3 letter5 x
noncomputable def ladingref13_name.b1 [Fuel] (s1:Bs) (i3:Int):Option ((Int) ⊕ (Bool)) :=
 bif (ltZ i3 (s1.length:Int)) then
 ((bAt s1 i3).bind fun c4 =>
 (bif (leZ 97 c4) then
  some (leZ c4 122)
 else
  some false).bind fun x =>
 ladingref13_name.j3 i3 c4 x)
 else
 some (.inr true)
noncomputable def ladingref13_name.j4 [Fuel] (s1:Bs) (v2:Bool):Option Bool :=
 bif v2 then
 some false
 else
 (loopF (fun x=>ladingref13_name.b1 s1 x) 0)
noncomputable def ladingref13_name [Fuel] (s1:Bs):Option Bool :=
 (bif (ltZ (s1.length:Int) 1) then
 some true
 else
 (bif (ltZ 20 (s1.length:Int)) then
  some true
 else
  (bif (decide (s1 = ([97,110,100]:Bs))) then
  some true
  else
  some (decide (s1 = ([111,114]:Bs)))))).bind fun x =>
 ladingref13_name.j4 s1 x
noncomputable def ladingref13_parser_part.j1 [Fuel] (n3:Bool × Int × List Bs) (v9:Bool):Option (GLic × Bool × Int × List Bs) :=
 bif v9 then
 ((z64 (n3.2.1 + 1)).bind fun v10 =>
 (z64 (v10 - 1)).bind fun v11 =>
 (idx n3.2.2 v11).bind fun _12 =>
 (idx n3.2.2 v11).bind fun v13 =>
 some ((0,v13,[]),true,v10,n3.2.2))
 else
 some ((0,([]:Bs),[]),false,n3.2.1,n3.2.2)
noncomputable def ladingref13_parser_part [Fuel] (Gr:Int → List Bs → Option (GLic × Bool × Int × List Bs)) (p1:Int) (p2:List Bs):Option (GLic × Bool × Int × List Bs) :=
 (ladingref13_parser_next ([40]:Bs) p1 p2).bind fun n3 =>
 bif n3.1 then
 ((Gr n3.2.1 n3.2.2).bind fun a4 =>
 bif a4.2.1 then
  ((ladingref13_parser_next ([41]:Bs) a4.2.2.1 a4.2.2.2).bind fun n5 =>
  some ((a4.1.1,a4.1.2.1,((a4.1.2.2.map (Uun 2)).map (Umk 2))),n5.1,n5.2.1,n5.2.2))
 else
  some ((a4.1.1,a4.1.2.1,((a4.1.2.2.map (Uun 2)).map (Umk 2))),false,a4.2.2.1,a4.2.2.2))
 else
 ((bif (ltZ n3.2.1 (n3.2.2.length:Int)) then
  ((idx n3.2.2 n3.2.1).bind fun _6 =>
  (idx n3.2.2 n3.2.1).bind fun v7 =>
  (ladingref13_name v7).bind fun n8 =>
  some n8)
 else
  some false).bind fun x =>
 ladingref13_parser_part.j1 n3 x)
noncomputable def ladingref13_joined.b1 [Fuel] (op1:Int) (l2:List GLic) (i4:Int) (e5:Int) (e6:Bs) (v7:List GLic):Option ((Int × Int × Bs × List GLic) ⊕ (GLic)) :=
 bif (ltZ i4 (l2.length:Int)) then
 ((idx l2 i4).bind fun v8 =>
 bif (eqZ v8.1 op1) then
  ((idx l2 i4).bind fun v9 =>
  (app? v7 (v9.2.2.map (Uun 2))).bind fun l10 =>
  (z64 (i4 + 1)).bind fun v11 =>
  some (.inl (v11,e5,e6,l10)))
 else
  ((idx l2 i4).bind fun v12 =>
  (app? v7 ([(v12.1,v12.2.1,((v12.2.2.map (Uun 2)).map (Umk 2)))]:List GLic)).bind fun l13 =>
  (z64 (i4 + 1)).bind fun v14 =>
  some (.inl (v14,e5,e6,l13))))
 else
 some (.inr (e5,e6,(v7.map (Umk 2))))
noncomputable def ladingref13_joined [Fuel] (op1:Int) (l2:List GLic):Option GLic :=
 bif (eqZ (l2.length:Int) 1) then
 ((idx l2 0).bind fun v3 =>
 some (v3.1,v3.2.1,((v3.2.2.map (Uun 2)).map (Umk 2))))
 else
 (loopF (fun x=>ladingref13_joined.b1 op1 l2 x.1 x.2.1 x.2.2.1 x.2.2.2) (0,op1,([]:Bs),[]))
noncomputable def ladingref13_parser_sequence.b1 [Fuel] (Gr:Int → List Bs → Option (GLic × Bool × Int × List Bs)) (more3:Bool) (p4:Int) (l5:List GLic) (v6:List Bs):Option ((Bool × Int × (List GLic) × List Bs) ⊕ (((List GLic) × Int × List Bs) ⊕ (GLic × Bool × Int × List Bs))) :=
 bif more3 then
 ((ladingref13_parser_part Gr p4 v6).bind fun p7 =>
 bif (!p7.2.1) then
  some (.inr (.inr ((0,([]:Bs),[]),false,p7.2.2.1,p7.2.2.2)))
 else
  ((app? l5 ([(p7.1.1,p7.1.2.1,((p7.1.2.2.map (Uun 2)).map (Umk 2)))]:List GLic)).bind fun l8 =>
  (ladingref13_parser_next ([97,110,100]:Bs) p7.2.2.1 p7.2.2.2).bind fun n9 =>
  some (.inl (n9.1,n9.2.1,l8,n9.2.2))))
 else
 some (.inr (.inl (l5,p4,v6)))
noncomputable def ladingref13_parser_sequence.j1 [Fuel] (l10:List GLic) (v11:Int) (v12:List Bs):Option (GLic × Bool × Int × List Bs) :=
 (ladingref13_joined 1 l10).bind fun j13 =>
 some ((j13.1,j13.2.1,((j13.2.2.map (Uun 2)).map (Umk 2))),true,v11,v12)
noncomputable def ladingref13_parser_sequence [Fuel] (Gr:Int → List Bs → Option (GLic × Bool × Int × List Bs)) (p1:Int) (p2:List Bs):Option (GLic × Bool × Int × List Bs) :=
 (loopF (fun x=>ladingref13_parser_sequence.b1 Gr x.1 x.2.1 x.2.2.1 x.2.2.2) (true,p1,[],p2)).bind fun x=>match x with
 | .inl x =>
 ladingref13_parser_sequence.j1 x.1 x.2.1 x.2.2
 | .inr r=>some r
noncomputable def ladingref13_parser_alternatives.b1 [Fuel] (Gr:Int → List Bs → Option (GLic × Bool × Int × List Bs)) (more3:Bool) (p4:Int) (l5:List GLic) (v6:List Bs):Option ((Bool × Int × (List GLic) × List Bs) ⊕ (((List GLic) × Int × List Bs) ⊕ (GLic × Bool × Int × List Bs))) :=
 bif more3 then
 ((ladingref13_parser_sequence Gr p4 v6).bind fun s7 =>
 bif (!s7.2.1) then
  some (.inr (.inr ((0,([]:Bs),[]),false,s7.2.2.1,s7.2.2.2)))
 else
  ((app? l5 ([(s7.1.1,s7.1.2.1,((s7.1.2.2.map (Uun 2)).map (Umk 2)))]:List GLic)).bind fun l8 =>
  (ladingref13_parser_next ([111,114]:Bs) s7.2.2.1 s7.2.2.2).bind fun n9 =>
  some (.inl (n9.1,n9.2.1,l8,n9.2.2))))
 else
 some (.inr (.inl (l5,p4,v6)))
noncomputable def ladingref13_parser_alternatives.j1 [Fuel] (l10:List GLic) (v11:Int) (v12:List Bs):Option (GLic × Bool × Int × List Bs) :=
 (ladingref13_joined 2 l10).bind fun j13 =>
 some ((j13.1,j13.2.1,((j13.2.2.map (Uun 2)).map (Umk 2))),true,v11,v12)
noncomputable def ladingref13_parser_alternatives.body [Fuel] (Gr:Int → List Bs → Option (GLic × Bool × Int × List Bs)) (p1:Int) (p2:List Bs):Option (GLic × Bool × Int × List Bs) :=
 (loopF (fun x=>ladingref13_parser_alternatives.b1 Gr x.1 x.2.1 x.2.2.1 x.2.2.2) (true,p1,[],p2)).bind fun x=>match x with
 | .inl x =>
 ladingref13_parser_alternatives.j1 x.1 x.2.1 x.2.2
 | .inr r=>some r
noncomputable def ladingref13_parser_alternatives.rec [Fuel]:Nat → Int → List Bs → Option (GLic × Bool × Int × List Bs)
 | 0=>fun _ _=>none
 | n + 1=>ladingref13_parser_alternatives.body (ladingref13_parser_alternatives.rec n)
noncomputable def ladingref13_parser_alternatives [Fuel] (p1:Int) (p2:List Bs):Option (GLic × Bool × Int × List Bs):=ladingref13_parser_alternatives.rec Fuel.n p1 p2
noncomputable def ladingref13_leaves.j1 [Fuel] (Gr:Int → Bs → List GLic → Option Int) (e3:List GLic) (n4:Int) (i5:Int) (v6:Bool):Option ((Int × Int) ⊕ (Int)) :=
 bif v6 then
 ((idx e3 i5).bind fun v7 =>
 (Gr v7.1 v7.2.1 (v7.2.2.map (Uun 2))).bind fun l8 =>
 (z64 (n4 + l8)).bind fun v9 =>
 (z64 (i5 + 1)).bind fun v10 =>
 some (.inl (v9,v10)))
 else
 some (.inr n4)
noncomputable def ladingref13_leaves.b1 [Fuel] (Gr:Int → Bs → List GLic → Option Int) (e3:List GLic) (n4:Int) (i5:Int):Option ((Int × Int) ⊕ (Int)) :=
 (bif (ltZ i5 (e3.length:Int)) then
 some (leZ n4 16)
 else
 some false).bind fun x =>
 ladingref13_leaves.j1 Gr e3 n4 i5 x
noncomputable def ladingref13_leaves.body [Fuel] (Gr:Int → Bs → List GLic → Option Int) (e1:Int) (e2:Bs) (e3:List GLic):Option Int :=
 bif (eqZ e1 0) then
 some 1
 else
 (loopF (fun x=>ladingref13_leaves.b1 Gr e3 x.1 x.2) (0,0))
noncomputable def ladingref13_leaves.rec [Fuel]:Nat → Int → Bs → List GLic → Option Int
 | 0=>fun _ _ _=>none
 | n + 1=>ladingref13_leaves.body (ladingref13_leaves.rec n)
noncomputable def ladingref13_leaves [Fuel] (e1:Int) (e2:Bs) (e3:List GLic):Option Int:=ladingref13_leaves.rec Fuel.n e1 e2 e3
noncomputable def ladingref13_Parse.j1 [Fuel] (a3:GLic × Bool × Int × List Bs) (v4:Bool):Option (GLic × Int) :=
 bif v4 then
 some ((0,([]:Bs),[]),2)
 else
 ((ladingref13_leaves a3.1.1 a3.1.2.1 (a3.1.2.2.map (Uun 2))).bind fun l5 =>
 bif (ltZ 16 l5) then
  some ((0,([]:Bs),[]),6)
 else
  some ((a3.1.1,a3.1.2.1,((a3.1.2.2.map (Uun 2)).map (Umk 2))),0))
noncomputable def ladingref13_Parse [Fuel] (s1:Bs):Option (GLic × Int) :=
 bif (ltZ 1000 (s1.length:Int)) then
 some ((0,([]:Bs),[]),6)
 else
 ((ladingref13_tokens s1).bind fun t2 =>
 (ladingref13_parser_alternatives 0 t2).bind fun a3 =>
 (bif (!a3.2.1) then
  some true
 else
  some (ltZ a3.2.2.1 (a3.2.2.2.length:Int))).bind fun x =>
 ladingref13_Parse.j1 a3 x)
noncomputable def ladingref13_form.j1 [Fuel] (i7:Int) (v12:Bool):Option ((Int) ⊕ (Bool)) :=
 bif v12 then
 some (.inr false)
 else
 ((z64 (i7 + 1)).bind fun v13 =>
 some (.inl v13))
noncomputable def ladingref13_form.b1 [Fuel] (Gr:Int → Bs → List GLic → Int → Option Bool) (e1:Int) (e3:List GLic) (levels4:Int) (i7:Int):Option ((Int) ⊕ (Bool)) :=
 bif (ltZ i7 (e3.length:Int)) then
 ((idx e3 i7).bind fun v8 =>
 (z64 (levels4 - 1)).bind fun v9 =>
 (Gr v8.1 v8.2.1 (v8.2.2.map (Uun 2)) v9).bind fun f10 =>
 ((idx e3 i7).bind fun v11 =>
 bif (eqZ v11.1 e1) then
  some true
 else
  some (!f10)).bind fun x =>
 ladingref13_form.j1 i7 x)
 else
 some (.inr true)
noncomputable def ladingref13_form.j2 [Fuel] (Gr:Int → Bs → List GLic → Int → Option Bool) (e1:Int) (e3:List GLic) (levels4:Int) (v6:Bool):Option Bool :=
 bif v6 then
 some false
 else
 (loopF (fun x=>ladingref13_form.b1 Gr e1 e3 levels4 x) 0)
noncomputable def ladingref13_form.body [Fuel] (Gr:Int → Bs → List GLic → Int → Option Bool) (e1:Int) (e2:Bs) (e3:List GLic) (levels4:Int):Option Bool :=
 bif (eqZ e1 0) then
 ((ladingref13_name e2).bind fun n5 =>
 bif n5 then
  some (eqZ (e3.length:Int) 0)
 else
  some false)
 else
 ((bif (!eqZ e1 1) then
  (bif (!eqZ e1 2) then
  some true
  else
  (bif (!decide (e2 = ([]:Bs))) then
   some true
  else
   (bif (ltZ (e3.length:Int) 2) then
   some true
   else
   (bif (ltZ 16 (e3.length:Int)) then
    some true
   else
    some (ltZ levels4 1)))))
 else
  (bif (!decide (e2 = ([]:Bs))) then
  some true
  else
  (bif (ltZ (e3.length:Int) 2) then
   some true
  else
   (bif (ltZ 16 (e3.length:Int)) then
   some true
   else
   some (ltZ levels4 1))))).bind fun x =>
 ladingref13_form.j2 Gr e1 e3 levels4 x)
noncomputable def ladingref13_form.rec [Fuel]:Nat → Int → Bs → List GLic → Int → Option Bool
 | 0=>fun _ _ _ _=>none
 | n + 1=>ladingref13_form.body (ladingref13_form.rec n)
noncomputable def ladingref13_form [Fuel] (e1:Int) (e2:Bs) (e3:List GLic) (levels4:Int):Option Bool:=ladingref13_form.rec Fuel.n e1 e2 e3 levels4
noncomputable def ladingref13_Right [Fuel] (e1:Int) (e2:Bs) (e3:List GLic):Option Bool :=
 (ladingref13_form e1 e2 e3 16).bind fun f4 =>
 bif f4 then
 ((ladingref13_leaves e1 e2 e3).bind fun l5 =>
 some (leZ l5 16))
 else
 some false
noncomputable def ladingref13_text.j1 [Fuel] (t7:Bs) (v9:Bool):Option Bs :=
 bif v9 then
 ((cat? ([40]:Bs) t7).bind fun s10 =>
 (cat? s10 ([41]:Bs)).bind fun s11 =>
 some s11)
 else
 some t7
noncomputable def ladingref13_text.j2 [Fuel] (s4:Bs) (v13:Bool):Option Bs :=
 bif v13 then
 ((cat? s4 ([32,97,110,100,32]:Bs)).bind fun s14 =>
 some s14)
 else
 some s4
noncomputable def ladingref13_text.j3 [Fuel] (i5:Int) (t12:Bs) (s15:Bs) (v16:Bool):Option ((Bs × Int) ⊕ (Bs)) :=
 bif v16 then
 ((cat? s15 ([32,111,114,32]:Bs)).bind fun s17 =>
 (cat? s17 t12).bind fun s18 =>
 (z64 (i5 + 1)).bind fun v19 =>
 some (.inl (s18,v19)))
 else
 ((cat? s15 t12).bind fun s20 =>
 (z64 (i5 + 1)).bind fun v21 =>
 some (.inl (s20,v21)))
noncomputable def ladingref13_text.j4 [Fuel] (e1:Int) (i5:Int) (t12:Bs) (s15:Bs):Option ((Bs × Int) ⊕ (Bs)) :=
 (bif (ltZ 0 i5) then
 some (eqZ e1 2)
 else
 some false).bind fun x =>
 ladingref13_text.j3 i5 t12 s15 x
noncomputable def ladingref13_text.j5 [Fuel] (e1:Int) (s4:Bs) (i5:Int) (t12:Bs):Option ((Bs × Int) ⊕ (Bs)) :=
 ((bif (ltZ 0 i5) then
 some (eqZ e1 1)
 else
 some false).bind fun x =>
 ladingref13_text.j2 s4 x).bind fun x =>
 ladingref13_text.j4 e1 i5 t12 x
noncomputable def ladingref13_text.b1 [Fuel] (Gr:Int → Bs → List GLic → Option Bs) (e1:Int) (e3:List GLic) (s4:Bs) (i5:Int):Option ((Bs × Int) ⊕ (Bs)) :=
 bif (ltZ i5 (e3.length:Int)) then
 ((idx e3 i5).bind fun v6 =>
 (Gr v6.1 v6.2.1 (v6.2.2.map (Uun 2))).bind fun t7 =>
 ((bif (eqZ e1 1) then
  ((idx e3 i5).bind fun v8 =>
  some (eqZ v8.1 2))
 else
  some false).bind fun x =>
 ladingref13_text.j1 t7 x).bind fun x =>
 ladingref13_text.j5 e1 s4 i5 x)
 else
 some (.inr s4)
noncomputable def ladingref13_text.body [Fuel] (Gr:Int → Bs → List GLic → Option Bs) (e1:Int) (e2:Bs) (e3:List GLic):Option Bs :=
 bif (eqZ e1 0) then
 some e2
 else
 (loopF (fun x=>ladingref13_text.b1 Gr e1 e3 x.1 x.2) (([]:Bs),0))
noncomputable def ladingref13_text.rec [Fuel]:Nat → Int → Bs → List GLic → Option Bs
 | 0=>fun _ _ _=>none
 | n + 1=>ladingref13_text.body (ladingref13_text.rec n)
noncomputable def ladingref13_text [Fuel] (e1:Int) (e2:Bs) (e3:List GLic):Option Bs:=ladingref13_text.rec Fuel.n e1 e2 e3
noncomputable def ladingref13_Print [Fuel] (e1:Int) (e2:Bs) (e3:List GLic):Option (Bs × Int) :=
 (ladingref13_Right e1 e2 e3).bind fun r4 =>
 bif (!r4) then
 some (([]:Bs),1)
 else
 ((ladingref13_text e1 e2 e3).bind fun t5 =>
 some (t5,0))
noncomputable def ladingref13_Same.b1 [Fuel] (Gr:Int → Bs → List GLic → Int → Bs → List GLic → Option Bool) (a3:List GLic) (b6:List GLic) (i8:Int):Option ((Int) ⊕ (Bool)) :=
 bif (ltZ i8 (a3.length:Int)) then
 ((idx a3 i8).bind fun v9 =>
 (idx b6 i8).bind fun v10 =>
 (Gr v9.1 v9.2.1 (v9.2.2.map (Uun 2)) v10.1 v10.2.1 (v10.2.2.map (Uun 2))).bind fun s11 =>
 bif (!s11) then
  some (.inr false)
 else
  ((z64 (i8 + 1)).bind fun v12 =>
  some (.inl v12)))
 else
 some (.inr true)
noncomputable def ladingref13_Same.j1 [Fuel] (Gr:Int → Bs → List GLic → Int → Bs → List GLic → Option Bool) (a3:List GLic) (b6:List GLic) (v7:Bool):Option Bool :=
 bif v7 then
 some false
 else
 (loopF (fun x=>ladingref13_Same.b1 Gr a3 b6 x) 0)
noncomputable def ladingref13_Same.body [Fuel] (Gr:Int → Bs → List GLic → Int → Bs → List GLic → Option Bool) (a1:Int) (a2:Bs) (a3:List GLic) (b4:Int) (b5:Bs) (b6:List GLic):Option Bool :=
 (bif (!eqZ a1 b4) then
 some true
 else
 (bif (!decide (a2 = b5)) then
  some true
 else
  some (!eqZ (a3.length:Int) (b6.length:Int)))).bind fun x =>
 ladingref13_Same.j1 Gr a3 b6 x
noncomputable def ladingref13_Same.rec [Fuel]:Nat → Int → Bs → List GLic → Int → Bs → List GLic → Option Bool
 | 0=>fun _ _ _ _ _ _=>none
 | n + 1=>ladingref13_Same.body (ladingref13_Same.rec n)
noncomputable def ladingref13_Same [Fuel] (a1:Int) (a2:Bs) (a3:List GLic) (b4:Int) (b5:Bs) (b6:List GLic):Option Bool:=ladingref13_Same.rec Fuel.n a1 a2 a3 b4 b5 b6
noncomputable def ladingref13_has.b1 [Fuel] (l1:List Bs) (s2:Bs) (i3:Int):Option ((Int) ⊕ (Bool)) :=
 bif (ltZ i3 (l1.length:Int)) then
 ((idx l1 i3).bind fun v4 =>
 bif (decide (v4 = s2)) then
  some (.inr true)
 else
  ((z64 (i3 + 1)).bind fun v5 =>
  some (.inl v5)))
 else
 some (.inr false)
noncomputable def ladingref13_has [Fuel] (l1:List Bs) (s2:Bs):Option Bool :=
 loopF (fun x=>ladingref13_has.b1 l1 s2 x) 0
noncomputable def ladingref13_permits.b1 [Fuel] (Gr:Int → Bs → List GLic → List Bs → Option Bool) (e1:Int) (e3:List GLic) (allowed4:List Bs) (i6:Int):Option ((Int) ⊕ (Bool)) :=
 bif (ltZ i6 (e3.length:Int)) then
 ((idx e3 i6).bind fun v7 =>
 (Gr v7.1 v7.2.1 (v7.2.2.map (Uun 2)) allowed4).bind fun p8 =>
 bif (!(p8 == (eqZ e1 1))) then
  some (.inr p8)
 else
  ((z64 (i6 + 1)).bind fun v9 =>
  some (.inl v9)))
 else
 some (.inr (eqZ e1 1))
noncomputable def ladingref13_permits.body [Fuel] (Gr:Int → Bs → List GLic → List Bs → Option Bool) (e1:Int) (e2:Bs) (e3:List GLic) (allowed4:List Bs):Option Bool :=
 bif (eqZ e1 0) then
 ((ladingref13_has allowed4 e2).bind fun h5 =>
 some h5)
 else
 (loopF (fun x=>ladingref13_permits.b1 Gr e1 e3 allowed4 x) 0)
noncomputable def ladingref13_permits.rec [Fuel]:Nat → Int → Bs → List GLic → List Bs → Option Bool
 | 0=>fun _ _ _ _=>none
 | n + 1=>ladingref13_permits.body (ladingref13_permits.rec n)
noncomputable def ladingref13_permits [Fuel] (e1:Int) (e2:Bs) (e3:List GLic) (allowed4:List Bs):Option Bool:=ladingref13_permits.rec Fuel.n e1 e2 e3 allowed4
noncomputable def ladingref13_Permits [Fuel] (e1:Int) (e2:Bs) (e3:List GLic) (allowed4:List Bs):Option Bool :=
 (ladingref13_Right e1 e2 e3).bind fun r5 =>
 bif r5 then
 ((ladingref13_permits e1 e2 e3 allowed4).bind fun p6 =>
 some p6)
 else
 some false
noncomputable def ladingref13_within.b1 [Fuel] (a1:List Bs) (b2:List Bs) (i3:Int):Option ((Int) ⊕ (Bool)) :=
 bif (ltZ i3 (a1.length:Int)) then
 ((idx a1 i3).bind fun v4 =>
 (ladingref13_has b2 v4).bind fun h5 =>
 bif (!h5) then
  some (.inr false)
 else
  ((z64 (i3 + 1)).bind fun v6 =>
  some (.inl v6)))
 else
 some (.inr true)
noncomputable def ladingref13_within [Fuel] (a1:List Bs) (b2:List Bs):Option Bool :=
 loopF (fun x=>ladingref13_within.b1 a1 b2 x) 0
noncomputable def ladingref13_before.b1 [Fuel] (a1:List Bs) (b2:List Bs) (i3:Int):Option ((Int) ⊕ (Bool)) :=
 bif (ltZ i3 (a1.length:Int)) then
 ((idx a1 i3).bind fun v4 =>
 (idx b2 i3).bind fun v5 =>
 bif (!decide (v4 = v5)) then
  ((idx a1 i3).bind fun v6 =>
  (idx b2 i3).bind fun v7 =>
  some (.inr (Op.bytesLess v6 v7)))
 else
  ((z64 (i3 + 1)).bind fun v8 =>
  some (.inl v8)))
 else
 some (.inr false)
noncomputable def ladingref13_before [Fuel] (a1:List Bs) (b2:List Bs):Option Bool :=
 bif (!eqZ (a1.length:Int) (b2.length:Int)) then
 some (ltZ (a1.length:Int) (b2.length:Int))
 else
 (loopF (fun x=>ladingref13_before.b1 a1 b2 x) 0)
noncomputable def ladingref13_add.j1 [Fuel] (l1:List (List Bs)) (s2:List Bs) (placed3:Bool) (i4:Int) (out5:List (List Bs)) (v13:Bool):Option ((Bool × Int × List (List Bs)) ⊕ ((Bool × List (List Bs)) ⊕ (List (List Bs)))) :=
 bif v13 then
 ((app? out5 ([s2]:List (List Bs))).bind fun l14 =>
 (idx l1 i4).bind fun v15 =>
 (app? l14 ([v15]:List (List Bs))).bind fun l16 =>
 (z64 (i4 + 1)).bind fun v17 =>
 some (.inl (true,v17,l16)))
 else
 ((idx l1 i4).bind fun v18 =>
 (app? out5 ([v18]:List (List Bs))).bind fun l19 =>
 (z64 (i4 + 1)).bind fun v20 =>
 some (.inl (placed3,v20,l19)))
noncomputable def ladingref13_add.b1 [Fuel] (l1:List (List Bs)) (s2:List Bs) (placed3:Bool) (i4:Int) (out5:List (List Bs)):Option ((Bool × Int × List (List Bs)) ⊕ ((Bool × List (List Bs)) ⊕ (List (List Bs)))) :=
 bif (ltZ i4 (l1.length:Int)) then
 ((idx l1 i4).bind fun v6 =>
 (ladingref13_within v6 s2).bind fun w7 =>
 bif w7 then
  some (.inr (.inr l1))
 else
  ((idx l1 i4).bind fun v8 =>
  (ladingref13_within s2 v8).bind fun w9 =>
  bif w9 then
  ((z64 (i4 + 1)).bind fun v10 =>
  some (.inl (placed3,v10,out5)))
  else
  ((bif (!placed3) then
   ((idx l1 i4).bind fun v11 =>
   (ladingref13_before s2 v11).bind fun b12 =>
   some b12)
  else
   some false).bind fun x =>
  ladingref13_add.j1 l1 s2 placed3 i4 out5 x)))
 else
 some (.inr (.inl (placed3,out5)))
noncomputable def ladingref13_add.j2 [Fuel] (s2:List Bs) (placed21:Bool) (out22:List (List Bs)):Option (List (List Bs)) :=
 bif (!placed21) then
 ((app? out22 ([s2]:List (List Bs))).bind fun l23 =>
 some l23)
 else
 some out22
noncomputable def ladingref13_add [Fuel] (l1:List (List Bs)) (s2:List Bs):Option (List (List Bs)) :=
 (loopF (fun x=>ladingref13_add.b1 l1 s2 x.1 x.2.1 x.2.2) (false,0,[])).bind fun x=>match x with
 | .inl x =>
 ladingref13_add.j2 s2 x.1 x.2
 | .inr r=>some r
noncomputable def ladingref13_put.j1 [Fuel] (l1:List Bs) (i3:Int) (out4:List Bs) (v6:Bool):Option ((Int × List Bs) ⊕ (Int × List Bs)) :=
 bif v6 then
 ((idx l1 i3).bind fun v7 =>
 (app? out4 ([v7]:List Bs)).bind fun l8 =>
 (z64 (i3 + 1)).bind fun v9 =>
 some (.inl (v9,l8)))
 else
 some (.inr (i3,out4))
noncomputable def ladingref13_put.b1 [Fuel] (l1:List Bs) (s2:Bs) (i3:Int) (out4:List Bs):Option ((Int × List Bs) ⊕ (Int × List Bs)) :=
 (bif (ltZ i3 (l1.length:Int)) then
 ((idx l1 i3).bind fun v5 =>
 some (Op.bytesLess v5 s2))
 else
 some false).bind fun x =>
 ladingref13_put.j1 l1 i3 out4 x
noncomputable def ladingref13_put.j2 [Fuel] (l1:List Bs) (i10:Int) (l12:List Bs) (v14:Bool):Option (List Bs) :=
 bif v14 then
 ((z64 (i10 + 1)).bind fun v15 =>
 (cut l1 v15 (l1.length:Int)).bind fun l16 =>
 (app? l12 l16).bind fun l17 =>
 some l17)
 else
 ((cut l1 i10 (l1.length:Int)).bind fun l18 =>
 (app? l12 l18).bind fun l19 =>
 some l19)
noncomputable def ladingref13_put.j3 [Fuel] (l1:List Bs) (s2:Bs) (i10:Int) (out11:List Bs):Option (List Bs) :=
 (app? out11 ([s2]:List Bs)).bind fun l12 =>
 (bif (ltZ i10 (l1.length:Int)) then
 ((idx l1 i10).bind fun v13 =>
 some (decide (v13 = s2)))
 else
 some false).bind fun x =>
 ladingref13_put.j2 l1 i10 l12 x
noncomputable def ladingref13_put [Fuel] (l1:List Bs) (s2:Bs):Option (List Bs) :=
 (loopF (fun x=>ladingref13_put.b1 l1 s2 x.1 x.2) (0,[])).bind fun x =>
 ladingref13_put.j3 l1 s2 x.1 x.2
noncomputable def ladingref13_union.b1 [Fuel] (b2:List Bs) (out4:List Bs) (i5:Int):Option (((List Bs) × Int) ⊕ (List Bs)) :=
 bif (ltZ i5 (b2.length:Int)) then
 ((idx b2 i5).bind fun v6 =>
 (ladingref13_put out4 v6).bind fun p7 =>
 (z64 (i5 + 1)).bind fun v8 =>
 some (.inl (p7,v8)))
 else
 some (.inr out4)
noncomputable def ladingref13_union [Fuel] (a1:List Bs) (b2:List Bs):Option (List Bs) :=
 (app? ([]:List Bs) a1).bind fun l3 =>
 loopF (fun x=>ladingref13_union.b1 b2 x.1 x.2) (l3,0)
noncomputable def ladingref13_normal.b1 [Fuel] (i5:Int) (n7:List (List Bs)) (out9:List (List Bs)) (k10:Int):Option (((List (List Bs)) × Int) ⊕ ((List (List Bs)) ⊕ (((List (List Bs)) × Int) ⊕ (List (List Bs))))) :=
 bif (ltZ k10 (n7.length:Int)) then
 ((idx n7 k10).bind fun v11 =>
 (ladingref13_add out9 v11).bind fun a12 =>
 (z64 (k10 + 1)).bind fun v13 =>
 some (.inl (a12,v13)))
 else
 (Option.map Sum.inr (Option.map Sum.inr ((z64 (i5 + 1)).bind fun v14 =>
 some (.inl (out9,v14)))))
noncomputable def ladingref13_normal.j1 [Fuel] (out4:List (List Bs)) (i5:Int) (n7:List (List Bs)) (v8:Bool):Option ((List (List Bs)) ⊕ (((List (List Bs)) × Int) ⊕ (List (List Bs)))) :=
 bif v8 then
 (loopF (fun x=>ladingref13_normal.b1 i5 n7 x.1 x.2) (out4,0))
 else
 some (.inl out4)
noncomputable def ladingref13_normal.b2 [Fuel] (n7:List (List Bs)) (out15:List (List Bs)) (k17:Int) (next18:List (List Bs)) (m19:Int):Option (((List (List Bs)) × Int) ⊕ (((List (List Bs)) × Int) ⊕ (((List (List Bs)) × Int) ⊕ (List (List Bs))))) :=
 bif (ltZ m19 (out15.length:Int)) then
 ((idx out15 m19).bind fun v20 =>
 (idx n7 k17).bind fun v21 =>
 (ladingref13_union v20 v21).bind fun u22 =>
 (ladingref13_add next18 u22).bind fun a23 =>
 (z64 (m19 + 1)).bind fun v24 =>
 some (.inl (a23,v24)))
 else
 (Option.map Sum.inr ((z64 (k17 + 1)).bind fun v25 =>
 some (.inl (next18,v25))))
noncomputable def ladingref13_normal.b3 [Fuel] (i5:Int) (n7:List (List Bs)) (out15:List (List Bs)) (next16:List (List Bs)) (k17:Int):Option (((List (List Bs)) × Int) ⊕ (((List (List Bs)) × Int) ⊕ (List (List Bs)))) :=
 bif (ltZ k17 (n7.length:Int)) then
 (loopF (fun x=>ladingref13_normal.b2 n7 out15 k17 x.1 x.2) (next16,0))
 else
 (Option.map Sum.inr ((z64 (i5 + 1)).bind fun v26 =>
 some (.inl (next16,v26))))
noncomputable def ladingref13_normal.j2 [Fuel] (i5:Int) (n7:List (List Bs)) (out15:List (List Bs)):Option (((List (List Bs)) × Int) ⊕ (List (List Bs))) :=
 loopF (fun x=>ladingref13_normal.b3 i5 n7 out15 x.1 x.2) ([],0)
noncomputable def ladingref13_normal.b4 [Fuel] (Gr:Int → Bs → List GLic → Option (List (List Bs))) (e1:Int) (e3:List GLic) (out4:List (List Bs)) (i5:Int):Option (((List (List Bs)) × Int) ⊕ (List (List Bs))) :=
 bif (ltZ i5 (e3.length:Int)) then
 ((idx e3 i5).bind fun v6 =>
 (Gr v6.1 v6.2.1 (v6.2.2.map (Uun 2))).bind fun n7 =>
 ((bif (eqZ i5 0) then
  some true
 else
  some (eqZ e1 2)).bind fun x =>
 ladingref13_normal.j1 out4 i5 n7 x).bind fun x=>match x with
 | .inl x =>
  ladingref13_normal.j2 i5 n7 x
 | .inr r=>some r)
 else
 some (.inr out4)
noncomputable def ladingref13_normal.body [Fuel] (Gr:Int → Bs → List GLic → Option (List (List Bs))) (e1:Int) (e2:Bs) (e3:List GLic):Option (List (List Bs)) :=
 bif (eqZ e1 0) then
 some ([([e2]:List Bs)]:List (List Bs))
 else
 (loopF (fun x=>ladingref13_normal.b4 Gr e1 e3 x.1 x.2) ([],0))
noncomputable def ladingref13_normal.rec [Fuel]:Nat → Int → Bs → List GLic → Option (List (List Bs))
 | 0=>fun _ _ _=>none
 | n + 1=>ladingref13_normal.body (ladingref13_normal.rec n)
noncomputable def ladingref13_normal [Fuel] (e1:Int) (e2:Bs) (e3:List GLic):Option (List (List Bs)):=ladingref13_normal.rec Fuel.n e1 e2 e3
noncomputable def ladingref13_Normal [Fuel] (e1:Int) (e2:Bs) (e3:List GLic):Option ((List (List Bs)) × Int) :=
 (ladingref13_Right e1 e2 e3).bind fun r4 =>
 bif (!r4) then
 some ([],1)
 else
 ((ladingref13_normal e1 e2 e3).bind fun n5 =>
 some (n5,0))
noncomputable def ladingref13_Implies.b1 [Fuel] (b4:Int) (b5:Bs) (b6:List GLic) (n10:List (List Bs)) (i11:Int):Option ((Int) ⊕ (Bool × (List Bs) × Int)) :=
 bif (ltZ i11 (n10.length:Int)) then
 ((idx n10 i11).bind fun v12 =>
 (ladingref13_permits b4 b5 b6 v12).bind fun p13 =>
 bif (!p13) then
  ((idx n10 i11).bind fun v14 =>
  some (.inr (false,v14,0)))
 else
  ((z64 (i11 + 1)).bind fun v15 =>
  some (.inl v15)))
 else
 some (.inr (true,[],0))
noncomputable def ladingref13_Implies.j1 [Fuel] (a1:Int) (a2:Bs) (a3:List GLic) (b4:Int) (b5:Bs) (b6:List GLic) (v9:Bool):Option (Bool × (List Bs) × Int) :=
 bif v9 then
 some (false,[],1)
 else
 ((ladingref13_normal a1 a2 a3).bind fun n10 =>
 loopF (fun x=>ladingref13_Implies.b1 b4 b5 b6 n10 x) 0)
noncomputable def ladingref13_Implies [Fuel] (a1:Int) (a2:Bs) (a3:List GLic) (b4:Int) (b5:Bs) (b6:List GLic):Option (Bool × (List Bs) × Int) :=
 ((ladingref13_Right a1 a2 a3).bind fun r7 =>
 bif (!r7) then
 some true
 else
 ((ladingref13_Right b4 b5 b6).bind fun r8 =>
 some (!r8))).bind fun x =>
 ladingref13_Implies.j1 a1 a2 a3 b4 b5 b6 x
noncomputable def licence_Names_1_v2.b1 [Fuel] (Gr:Int → Bs → List GLic → List Bs → Option (List Bs)) (e3:List GLic) (v7:Int) (v8:List Bs):Option ((Int × List Bs) ⊕ (List Bs)) :=
 bif (ltZ v7 (e3.length:Int)) then
 ((idx e3 v7).bind fun v9 =>
 (Gr v9.1 v9.2.1 (v9.2.2.map (Uun 2)) v8).bind fun v10 =>
 (z64 (v7 + 1)).bind fun v11 =>
 some (.inl (v11,v10)))
 else
 some (.inr v8)
noncomputable def licence_Names_1_v2.j1 [Fuel] (Gr:Int → Bs → List GLic → List Bs → Option (List Bs)) (e3:List GLic) (v6:List Bs):Option (List Bs) :=
 loopF (fun x=>licence_Names_1_v2.b1 Gr e3 x.1 x.2) (0,v6)
noncomputable def licence_Names_1_v2.body [Fuel] (Gr:Int → Bs → List GLic → List Bs → Option (List Bs)) (e1:Int) (e2:Bs) (e3:List GLic) (p4:List Bs):Option (List Bs) :=
 (bif (eqZ e1 0) then
 ((app? p4 ([e2]:List Bs)).bind fun l5 =>
 some l5)
 else
 some p4).bind fun x =>
 licence_Names_1_v2.j1 Gr e3 x
noncomputable def licence_Names_1_v2.rec [Fuel]:Nat → Int → Bs → List GLic → List Bs → Option (List Bs)
 | 0=>fun _ _ _ _=>none
 | n + 1=>licence_Names_1_v2.body (licence_Names_1_v2.rec n)
noncomputable def licence_Names_1_v2 [Fuel] (e1:Int) (e2:Bs) (e3:List GLic) (p4:List Bs):Option (List Bs):=licence_Names_1_v2.rec Fuel.n e1 e2 e3 p4
noncomputable def licence_Names_1.b1 [Fuel] (e3:List GLic) (v6:Int) (v7:List Bs):Option ((Int × List Bs) ⊕ (List Bs)) :=
 bif (ltZ v6 (e3.length:Int)) then
 ((idx e3 v6).bind fun v8 =>
 (licence_Names_1_v2 v8.1 v8.2.1 (v8.2.2.map (Uun 2)) v7).bind fun v9 =>
 (z64 (v6 + 1)).bind fun v10 =>
 some (.inl (v10,v9)))
 else
 some (.inr v7)
noncomputable def licence_Names_1.j1 [Fuel] (e3:List GLic) (v5:List Bs):Option (List Bs) :=
 loopF (fun x=>licence_Names_1.b1 e3 x.1 x.2) (0,v5)
noncomputable def licence_Names_1 [Fuel] (e1:Int) (e2:Bs) (e3:List GLic):Option (List Bs) :=
 (bif (eqZ e1 0) then
 ((app? [] ([e2]:List Bs)).bind fun l4 =>
 some l4)
 else
 some []).bind fun x =>
 licence_Names_1.j1 e3 x
noncomputable def licence_Names [Fuel] (e1:Int) (e2:Bs) (e3:List GLic):Option (List Bs) :=
 (licence_Right e1 e2 e3).bind fun r4 =>
 bif (!r4) then
 some []
 else
 ((licence_Names_1 e1 e2 e3).bind fun v'5 =>
 (slices_Sort_string v'5).bind fun s6 =>
 (slices_Compact_string s6).bind fun s7 =>
 some s7)
noncomputable def ladingref13_names.b1 [Fuel] (i5:Int) (n7:List Bs) (out8:List Bs) (k9:Int):Option (((List Bs) × Int) ⊕ (((List Bs) × Int) ⊕ (List Bs))) :=
 bif (ltZ k9 (n7.length:Int)) then
 ((idx n7 k9).bind fun v10 =>
 (ladingref13_put out8 v10).bind fun p11 =>
 (z64 (k9 + 1)).bind fun v12 =>
 some (.inl (p11,v12)))
 else
 (Option.map Sum.inr ((z64 (i5 + 1)).bind fun v13 =>
 some (.inl (out8,v13))))
noncomputable def ladingref13_names.b2 [Fuel] (Gr:Int → Bs → List GLic → Option (List Bs)) (e3:List GLic) (out4:List Bs) (i5:Int):Option (((List Bs) × Int) ⊕ (List Bs)) :=
 bif (ltZ i5 (e3.length:Int)) then
 ((idx e3 i5).bind fun v6 =>
 (Gr v6.1 v6.2.1 (v6.2.2.map (Uun 2))).bind fun n7 =>
 loopF (fun x=>ladingref13_names.b1 i5 n7 x.1 x.2) (out4,0))
 else
 some (.inr out4)
noncomputable def ladingref13_names.body [Fuel] (Gr:Int → Bs → List GLic → Option (List Bs)) (e1:Int) (e2:Bs) (e3:List GLic):Option (List Bs) :=
 bif (eqZ e1 0) then
 some ([e2]:List Bs)
 else
 (loopF (fun x=>ladingref13_names.b2 Gr e3 x.1 x.2) ([],0))
noncomputable def ladingref13_names.rec [Fuel]:Nat → Int → Bs → List GLic → Option (List Bs)
 | 0=>fun _ _ _=>none
 | n + 1=>ladingref13_names.body (ladingref13_names.rec n)
noncomputable def ladingref13_names [Fuel] (e1:Int) (e2:Bs) (e3:List GLic):Option (List Bs):=ladingref13_names.rec Fuel.n e1 e2 e3
noncomputable def ladingref13_Names [Fuel] (e1:Int) (e2:Bs) (e3:List GLic):Option (List Bs) :=
 (ladingref13_Right e1 e2 e3).bind fun r4 =>
 bif (!r4) then
 some []
 else
 ((ladingref13_names e1 e2 e3).bind fun n5 =>
 some n5)
noncomputable def ladinglaw13_LicenceTells.j1 [Fuel] (a1:GLic) (b2:GLic) (s5:Bool) (v19:Bool):Option Bool :=
 bif v19 then
 some false
 else
 ((licence_Normal a1.1 a1.2.1 (a1.2.2.map (Uun 2))).bind fun n20 =>
 (ladingref13_Normal a1.1 a1.2.1 (a1.2.2.map (Uun 2))).bind fun n21 =>
 (licence_Implies a1.1 a1.2.1 (a1.2.2.map (Uun 2)) b2.1 b2.2.1 (b2.2.2.map (Uun 2))).bind fun i22 =>
 (ladingref13_Implies a1.1 a1.2.1 (a1.2.2.map (Uun 2)) b2.1 b2.2.1 (b2.2.2.map (Uun 2))).bind fun i23 =>
 bif s5 then
  (bif (eqZ n20.2 n21.2) then
  ((ladingref13_SameSets n20.1 n21.1).bind fun s24 =>
  bif s24 then
   (bif (i22.1 == i23.1) then
   (bif (eqZ i22.2.2 i23.2.2) then
    ((ladingref13_SameNames i22.2.1 i23.2.1).bind fun s25 =>
    bif s25 then
    ((licence_Names a1.1 a1.2.1 (a1.2.2.map (Uun 2))).bind fun n26 =>
    (ladingref13_Names a1.1 a1.2.1 (a1.2.2.map (Uun 2))).bind fun n27 =>
    (ladingref13_SameNames n26 n27).bind fun s28 =>
    some s28)
    else
    some false)
   else
    some false)
   else
   some false)
  else
   some false)
  else
  some false)
 else
  some false)
noncomputable def ladinglaw13_LicenceTells.j2 [Fuel] (a1:GLic) (b2:GLic) (s3:Bs) (allowed4:List Bs) (s5:Bool) (v9:Bool):Option Bool :=
 bif v9 then
 some s5
 else
 ((licence_Parse s3).bind fun p10 =>
 (ladingref13_Parse s3).bind fun p11 =>
 (licence_Print a1.1 a1.2.1 (a1.2.2.map (Uun 2))).bind fun p12 =>
 (ladingref13_Print a1.1 a1.2.1 (a1.2.2.map (Uun 2))).bind fun p13 =>
 (bif (!eqZ p10.2 p11.2) then
  some true
 else
  ((ladingref13_Same p10.1.1 p10.1.2.1 (p10.1.2.2.map (Uun 2)) p11.1.1 p11.1.2.1 (p11.1.2.2.map (Uun 2))).bind fun s14 =>
  bif (!s14) then
  some true
  else
  (bif (!decide (p12.1 = p13.1)) then
   some true
  else
   (bif (!eqZ p12.2 p13.2) then
   some true
   else
   ((licence_Right a1.1 a1.2.1 (a1.2.2.map (Uun 2))).bind fun r15 =>
   (ladingref13_Right a1.1 a1.2.1 (a1.2.2.map (Uun 2))).bind fun r16 =>
   bif (!(r15 == r16)) then
    some true
   else
    ((licence_Permits a1.1 a1.2.1 (a1.2.2.map (Uun 2)) allowed4).bind fun p17 =>
    (ladingref13_Permits a1.1 a1.2.1 (a1.2.2.map (Uun 2)) allowed4).bind fun p18 =>
    some (!(p17 == p18)))))))).bind fun x =>
 ladinglaw13_LicenceTells.j1 a1 b2 s5 x)
noncomputable def ladinglaw13_LicenceTells [Fuel] (a1:GLic) (b2:GLic) (s3:Bs) (allowed4:List Bs):Option Bool :=
 (ladinglaw13_small).bind fun s5 =>
 ((ladinglaw13_light a1.1 a1.2.1 (a1.2.2.map (Uun 2))).bind fun l6 =>
 bif (!l6) then
 some true
 else
 ((ladinglaw13_light b2.1 b2.2.1 (b2.2.2.map (Uun 2))).bind fun l7 =>
 bif (!l7) then
  some true
 else
  (bif (ltZ 1500 (s3.length:Int)) then
  some true
  else
  ((ladinglaw13_short allowed4).bind fun s8 =>
  some (!s8))))).bind fun x =>
 ladinglaw13_LicenceTells.j2 a1 b2 s3 allowed4 s5 x
noncomputable def ladingref13_Same_v2.b1 [Fuel] (a3:List GLic) (b4:GLic) (i6:Int):Option ((Int) ⊕ (Bool)) :=
 bif (ltZ i6 (a3.length:Int)) then
 ((idx a3 i6).bind fun v7 =>
 (idx (b4.2.2.map (Uun 2)) i6).bind fun v8 =>
 (ladingref13_Same v7.1 v7.2.1 (v7.2.2.map (Uun 2)) v8.1 v8.2.1 (v8.2.2.map (Uun 2))).bind fun s9 =>
 bif (!s9) then
  some (.inr false)
 else
  ((z64 (i6 + 1)).bind fun v10 =>
  some (.inl v10)))
 else
 some (.inr true)
noncomputable def ladingref13_Same_v2.j1 [Fuel] (a3:List GLic) (b4:GLic) (v5:Bool):Option Bool :=
 bif v5 then
 some false
 else
 (loopF (fun x=>ladingref13_Same_v2.b1 a3 b4 x) 0)
noncomputable def ladingref13_Same_v2 [Fuel] (a1:Int) (a2:Bs) (a3:List GLic) (b4:GLic):Option Bool :=
 (bif (!eqZ a1 b4.1) then
 some true
 else
 (bif (!decide (a2 = b4.2.1)) then
  some true
 else
  some (!eqZ (a3.length:Int) ((b4.2.2.map (Uun 2)).length:Int)))).bind fun x =>
 ladingref13_Same_v2.j1 a3 b4 x
noncomputable def ladinglaw13_LicenceBack.j1 [Fuel] (v11:Bool):Option ((Unit) ⊕ (Bool)) :=
 bif v11 then
 some (.inr false)
 else
 some (.inl ())
noncomputable def ladinglaw13_LicenceBack.j2 [Fuel] (s2:Bs) (s3:Bool):Option Bool :=
 (licence_Parse s2).bind fun p12 =>
 bif (!eqZ p12.2 0) then
 (bif s3 then
  (bif (eqZ p12.2 2) then
  ((ladingref13_Same_v2 p12.1.1 p12.1.2.1 (p12.1.2.2.map (Uun 2)) (0,([]:Bs),[])).bind fun v13 =>
  some v13)
  else
  (bif (eqZ p12.2 6) then
   ((ladingref13_Same_v2 p12.1.1 p12.1.2.1 (p12.1.2.2.map (Uun 2)) (0,([]:Bs),[])).bind fun v14 =>
   some v14)
  else
   some false))
 else
  some false)
 else
 ((licence_Print p12.1.1 p12.1.2.1 (p12.1.2.2.map (Uun 2))).bind fun p15 =>
 (licence_Parse p15.1).bind fun p16 =>
 bif s3 then
  ((licence_Right p12.1.1 p12.1.2.1 (p12.1.2.2.map (Uun 2))).bind fun r17 =>
  bif r17 then
  (bif (eqZ p15.2 0) then
   (bif (eqZ p16.2 0) then
   ((ladingref13_Same p12.1.1 p12.1.2.1 (p12.1.2.2.map (Uun 2)) p16.1.1 p16.1.2.1 (p16.1.2.2.map (Uun 2))).bind fun s18 =>
   bif s18 then
    ((licence_Names p12.1.1 p12.1.2.1 (p12.1.2.2.map (Uun 2))).bind fun n19 =>
    some (ltZ 0 (n19.length:Int)))
   else
    some false)
   else
   some false)
  else
   some false)
  else
  some false)
 else
  some false)
noncomputable def ladinglaw13_LicenceBack.j3 [Fuel] (a1:GLic) (s2:Bs) (s3:Bool) (p6:Bs × Int) (v8:Bool):Option Bool :=
 bif v8 then
 some false
 else
 (((bif (eqZ p6.2 0) then
  ((licence_Parse p6.1).bind fun p9 =>
  (bif (!eqZ p9.2 0) then
  some true
  else
  ((ladingref13_Same p9.1.1 p9.1.2.1 (p9.1.2.2.map (Uun 2)) a1.1 a1.2.1 (a1.2.2.map (Uun 2))).bind fun s10 =>
  some (!s10))).bind fun x =>
  ladinglaw13_LicenceBack.j1 x)
 else
  some (.inl ())):Option ((Unit) ⊕ (Bool))).bind fun x=>match x with
 | .inl x =>
  ladinglaw13_LicenceBack.j2 s2 s3
 | .inr r=>some r)
noncomputable def ladinglaw13_LicenceBack.j4 [Fuel] (a1:GLic) (s2:Bs) (s3:Bool) (v5:Bool):Option Bool :=
 bif v5 then
 some s3
 else
 ((licence_Print a1.1 a1.2.1 (a1.2.2.map (Uun 2))).bind fun p6 =>
 ((licence_Right a1.1 a1.2.1 (a1.2.2.map (Uun 2))).bind fun r7 =>
 bif (!((eqZ p6.2 0) == r7)) then
  some true
 else
  (bif (!eqZ p6.2 0) then
  (bif (!eqZ p6.2 1) then
   some true
  else
   some (!decide (p6.1 = ([]:Bs))))
  else
  some false)).bind fun x =>
 ladinglaw13_LicenceBack.j3 a1 s2 s3 p6 x)
noncomputable def ladinglaw13_LicenceBack [Fuel] (a1:GLic) (s2:Bs):Option Bool :=
 (ladinglaw13_small).bind fun s3 =>
 ((ladinglaw13_light a1.1 a1.2.1 (a1.2.2.map (Uun 2))).bind fun l4 =>
 bif (!l4) then
 some true
 else
 some (ltZ 1000 (s2.length:Int))).bind fun x =>
 ladinglaw13_LicenceBack.j4 a1 s2 s3 x
noncomputable def ladinglaw13_holds.b1 [Fuel] (all1:List Bs) (l2:List Bs) (i3:Int) (there4:Bool) (k5:Int):Option ((Bool × Int) ⊕ (Bool)) :=
 bif (ltZ k5 (all1.length:Int)) then
 (bif there4 then
  ((z64 (k5 + 1)).bind fun v6 =>
  some (.inl (true,v6)))
 else
  ((idx all1 k5).bind fun v7 =>
  (idx l2 i3).bind fun v8 =>
  (z64 (k5 + 1)).bind fun v9 =>
  some (.inl ((decide (v7 = v8)),v9))))
 else
 some (.inr there4)
noncomputable def ladinglaw13_holds.j1 [Fuel] (i3:Int) (there10:Bool):Option ((Int) ⊕ (Bool)) :=
 bif (!there10) then
 some (.inr false)
 else
 ((z64 (i3 + 1)).bind fun v11 =>
 some (.inl v11))
noncomputable def ladinglaw13_holds.b2 [Fuel] (all1:List Bs) (l2:List Bs) (i3:Int):Option ((Int) ⊕ (Bool)) :=
 bif (ltZ i3 (l2.length:Int)) then
 ((loopF (fun x=>ladinglaw13_holds.b1 all1 l2 i3 x.1 x.2) (false,0)).bind fun x =>
 ladinglaw13_holds.j1 i3 x)
 else
 some (.inr true)
noncomputable def ladinglaw13_holds [Fuel] (all1:List Bs) (l2:List Bs):Option Bool :=
 loopF (fun x=>ladinglaw13_holds.b2 all1 l2 x) 0
noncomputable def ladinglaw13_picked.b1 [Fuel] (l1:List Bs) (bits2:Int) (i3:Int) (out4:List Bs):Option ((Int × List Bs) ⊕ (List Bs)) :=
 bif (ltZ i3 (l1.length:Int)) then
 ((shrZ .i64 bits2 (IntKind.u64.wrap i3)).bind fun v5 =>
 bif (eqZ (andI .i64 v5 1) 1) then
  ((idx l1 i3).bind fun v6 =>
  (app? out4 ([v6]:List Bs)).bind fun l7 =>
  (z64 (i3 + 1)).bind fun v8 =>
  some (.inl (v8,l7)))
 else
  ((z64 (i3 + 1)).bind fun v9 =>
  some (.inl (v9,out4))))
 else
 some (.inr out4)
noncomputable def ladinglaw13_picked [Fuel] (l1:List Bs) (bits2:Int):Option (List Bs) :=
 loopF (fun x=>ladinglaw13_picked.b1 l1 bits2 x.1 x.2) (0,[])
noncomputable def ladinglaw13_LicenceNormal.j1 [Fuel] (k12:Int) (v16:Bool):Option ((Int) ⊕ ((Unit) ⊕ ((Int) ⊕ ((Unit) ⊕ (Bool))))) :=
 bif v16 then
 some (.inr (.inr (.inr (.inr false))))
 else
 ((z64 (k12 + 1)).bind fun v17 =>
 some (.inl v17))
noncomputable def ladinglaw13_LicenceNormal.b1 [Fuel] (n9:(List (List Bs)) × Int) (i11:Int) (k12:Int):Option ((Int) ⊕ ((Unit) ⊕ ((Int) ⊕ ((Unit) ⊕ (Bool))))) :=
 bif (ltZ k12 (n9.1.length:Int)) then
 ((bif (!eqZ i11 k12) then
  ((idx n9.1 i11).bind fun v13 =>
  (idx n9.1 k12).bind fun v14 =>
  (ladinglaw13_holds v13 v14).bind fun h15 =>
  some h15)
 else
  some false).bind fun x =>
 ladinglaw13_LicenceNormal.j1 k12 x)
 else
 some (.inr (.inl ()))
noncomputable def ladinglaw13_LicenceNormal.j2 [Fuel] (n8:List Bs) (n9:(List (List Bs)) × Int) (i11:Int):Option ((Int) ⊕ ((Unit) ⊕ (Bool))) :=
 (idx n9.1 i11).bind fun v18 =>
 (ladinglaw13_holds n8 v18).bind fun h19 =>
 bif (!h19) then
 some (.inr (.inr false))
 else
 ((z64 (i11 + 1)).bind fun v20 =>
 some (.inl v20))
noncomputable def ladinglaw13_LicenceNormal.b2 [Fuel] (n8:List Bs) (n9:(List (List Bs)) × Int) (i11:Int):Option ((Int) ⊕ ((Unit) ⊕ (Bool))) :=
 bif (ltZ i11 (n9.1.length:Int)) then
 ((loopF (fun x=>ladinglaw13_LicenceNormal.b1 n9 i11 x) 0).bind fun x=>match x with
 | .inl x =>
  ladinglaw13_LicenceNormal.j2 n8 n9 i11
 | .inr r=>some r)
 else
 some (.inr (.inl ()))
noncomputable def ladinglaw13_LicenceNormal.b3 [Fuel] (n9:(List (List Bs)) × Int) (p23:List Bs) (want24:Bool) (i25:Int):Option ((Bool × Int) ⊕ (Bool)) :=
 bif (ltZ i25 (n9.1.length:Int)) then
 (bif want24 then
  ((z64 (i25 + 1)).bind fun v26 =>
  some (.inl (true,v26)))
 else
  ((idx n9.1 i25).bind fun v27 =>
  (ladinglaw13_holds p23 v27).bind fun h28 =>
  (z64 (i25 + 1)).bind fun v29 =>
  some (.inl (h28,v29))))
 else
 some (.inr want24)
noncomputable def ladinglaw13_LicenceNormal.j3 [Fuel] (bits21:Int) (v35:Bool):Option ((Int) ⊕ (Bool)) :=
 bif v35 then
 some (.inr false)
 else
 ((z64 (bits21 + 1)).bind fun v36 =>
 some (.inl v36))
noncomputable def ladinglaw13_LicenceNormal.j4 [Fuel] (a1:GLic) (more2:List Bs) (bits21:Int) (p23:List Bs) (want30:Bool):Option ((Int) ⊕ (Bool)) :=
 (licence_Permits a1.1 a1.2.1 (a1.2.2.map (Uun 2)) p23).bind fun p31 =>
 (bif (!(p31 == want30)) then
 some true
 else
 (bif p31 then
  ((app? ([]:List Bs) more2).bind fun l32 =>
  (app? l32 p23).bind fun l33 =>
  (licence_Permits a1.1 a1.2.1 (a1.2.2.map (Uun 2)) l33).bind fun p34 =>
  some (!p34))
 else
  some false)).bind fun x =>
 ladinglaw13_LicenceNormal.j3 bits21 x
noncomputable def ladinglaw13_LicenceNormal.b4 [Fuel] (a1:GLic) (more2:List Bs) (s3:Bool) (n8:List Bs) (n9:(List (List Bs)) × Int) (bits21:Int):Option ((Int) ⊕ (Bool)) :=
 (shlZ .i64 1 (IntKind.u64.wrap (n8.length:Int))).bind fun v22 =>
 bif (ltZ bits21 v22) then
 ((ladinglaw13_picked n8 bits21).bind fun p23 =>
 (loopF (fun x=>ladinglaw13_LicenceNormal.b3 n9 p23 x.1 x.2) (false,0)).bind fun x =>
 ladinglaw13_LicenceNormal.j4 a1 more2 bits21 p23 x)
 else
 some (.inr s3)
noncomputable def ladinglaw13_LicenceNormal.j5 [Fuel] (a1:GLic) (more2:List Bs) (s3:Bool) (n8:List Bs) (n9:(List (List Bs)) × Int):Option Bool :=
 loopF (fun x=>ladinglaw13_LicenceNormal.b4 a1 more2 s3 n8 n9 x) 0
noncomputable def ladinglaw13_LicenceNormal.j6 [Fuel] (a1:GLic) (more2:List Bs) (s3:Bool) (n8:List Bs) (n9:(List (List Bs)) × Int) (v10:Bool):Option Bool :=
 bif v10 then
 some false
 else
 ((loopF (fun x=>ladinglaw13_LicenceNormal.b2 n8 n9 x) 0).bind fun x=>match x with
 | .inl x =>
  ladinglaw13_LicenceNormal.j5 a1 more2 s3 n8 n9
 | .inr r=>some r)
noncomputable def ladinglaw13_LicenceNormal.j7 [Fuel] (a1:GLic) (more2:List Bs) (s3:Bool) (v7:Bool):Option Bool :=
 bif v7 then
 some s3
 else
 ((licence_Names a1.1 a1.2.1 (a1.2.2.map (Uun 2))).bind fun n8 =>
 (licence_Normal a1.1 a1.2.1 (a1.2.2.map (Uun 2))).bind fun n9 =>
 bif (ltZ 8 (n8.length:Int)) then
  some s3
 else
  ((bif (!eqZ n9.2 0) then
  some true
  else
  some (eqZ (n9.1.length:Int) 0)).bind fun x =>
  ladinglaw13_LicenceNormal.j6 a1 more2 s3 n8 n9 x))
noncomputable def ladinglaw13_LicenceNormal [Fuel] (a1:GLic) (more2:List Bs):Option Bool :=
 (ladinglaw13_small).bind fun s3 =>
 ((ladinglaw13_light a1.1 a1.2.1 (a1.2.2.map (Uun 2))).bind fun l4 =>
 bif (!l4) then
 some true
 else
 ((licence_Right a1.1 a1.2.1 (a1.2.2.map (Uun 2))).bind fun r5 =>
 bif (!r5) then
  some true
 else
  ((ladinglaw13_short more2).bind fun s6 =>
  some (!s6)))).bind fun x =>
 ladinglaw13_LicenceNormal.j7 a1 more2 s3 x
noncomputable def ladinglaw13_LicenceImplies.b1 [Fuel] (a1:GLic) (i13:Bool × (List Bs) × Int) (k26:Int):Option ((Int) ⊕ ((Unit) ⊕ (Bool))) :=
 bif (ltZ k26 (i13.2.1.length:Int)) then
 ((cut i13.2.1 0 k26).bind fun l27 =>
 (app? ([]:List Bs) l27).bind fun l28 =>
 (z64 (k26 + 1)).bind fun v29 =>
 (cut i13.2.1 v29 (i13.2.1.length:Int)).bind fun l30 =>
 (app? l28 l30).bind fun l31 =>
 (licence_Permits a1.1 a1.2.1 (a1.2.2.map (Uun 2)) l31).bind fun p32 =>
 bif p32 then
  some (.inr (.inr false))
 else
  ((z64 (k26 + 1)).bind fun v33 =>
  some (.inl v33)))
 else
 some (.inr (.inl ()))
noncomputable def ladinglaw13_LicenceImplies.j1 [Fuel] (a1:GLic) (b2:GLic) (s4:Bool) (i13:Bool × (List Bs) × Int):Option Bool :=
 bif s4 then
 ((licence_Permits a1.1 a1.2.1 (a1.2.2.map (Uun 2)) i13.2.1).bind fun p34 =>
 bif p34 then
  ((licence_Permits b2.1 b2.2.1 (b2.2.2.map (Uun 2)) i13.2.1).bind fun p35 =>
  some (!p35))
 else
  some false)
 else
 some false
noncomputable def ladinglaw13_LicenceImplies.j2 [Fuel] (a1:GLic) (b2:GLic) (s4:Bool) (i13:Bool × (List Bs) × Int) (v25:Bool):Option Bool :=
 bif v25 then
 some false
 else
 (bif i13.1 then
  (bif s4 then
  some (eqZ (i13.2.1.length:Int) 0)
  else
  some false)
 else
  ((loopF (fun x=>ladinglaw13_LicenceImplies.b1 a1 i13 x) 0).bind fun x=>match x with
  | .inl x =>
  ladinglaw13_LicenceImplies.j1 a1 b2 s4 i13
  | .inr r=>some r))
noncomputable def ladinglaw13_LicenceImplies.j3 [Fuel] (a1:GLic) (b2:GLic) (c3:GLic) (s4:Bool) (v11:Bool):Option Bool :=
 bif v11 then
 some s4
 else
 ((licence_Implies a1.1 a1.2.1 (a1.2.2.map (Uun 2)) a1.1 a1.2.1 (a1.2.2.map (Uun 2))).bind fun i12 =>
 (licence_Implies a1.1 a1.2.1 (a1.2.2.map (Uun 2)) b2.1 b2.2.1 (b2.2.2.map (Uun 2))).bind fun i13 =>
 (licence_Implies b2.1 b2.2.1 (b2.2.2.map (Uun 2)) a1.1 a1.2.1 (a1.2.2.map (Uun 2))).bind fun i14 =>
 (licence_Implies b2.1 b2.2.1 (b2.2.2.map (Uun 2)) c3.1 c3.2.1 (c3.2.2.map (Uun 2))).bind fun i15 =>
 (licence_Implies a1.1 a1.2.1 (a1.2.2.map (Uun 2)) c3.1 c3.2.1 (c3.2.2.map (Uun 2))).bind fun i16 =>
 (licence_Normal a1.1 a1.2.1 (a1.2.2.map (Uun 2))).bind fun n17 =>
 (licence_Normal b2.1 b2.2.1 (b2.2.2.map (Uun 2))).bind fun n18 =>
 (bif (!eqZ i12.2.2 0) then
  some true
 else
  (bif (!eqZ i13.2.2 0) then
  some true
  else
  (bif (!eqZ i14.2.2 0) then
   some true
  else
   (bif (!eqZ i15.2.2 0) then
   some true
   else
   (bif (!eqZ i16.2.2 0) then
    some true
   else
    (bif (!i12.1) then
    some true
    else
    (bif i13.1 then
     (bif i15.1 then
     (bif (!i16.1) then
      some true
     else
      (bif i13.1 then
      ((ladingref13_SameSets n17.1 n18.1).bind fun s19 =>
      some (!(i14.1 == s19)))
      else
      ((ladingref13_SameSets n17.1 n18.1).bind fun s20 =>
      some (!(false == s20)))))
     else
     (bif i13.1 then
      ((ladingref13_SameSets n17.1 n18.1).bind fun s21 =>
      some (!(i14.1 == s21)))
     else
      ((ladingref13_SameSets n17.1 n18.1).bind fun s22 =>
      some (!(false == s22)))))
    else
     (bif i13.1 then
     ((ladingref13_SameSets n17.1 n18.1).bind fun s23 =>
     some (!(i14.1 == s23)))
     else
     ((ladingref13_SameSets n17.1 n18.1).bind fun s24 =>
     some (!(false == s24))))))))))).bind fun x =>
 ladinglaw13_LicenceImplies.j2 a1 b2 s4 i13 x)
noncomputable def ladinglaw13_LicenceImplies [Fuel] (a1:GLic) (b2:GLic) (c3:GLic):Option Bool :=
 (ladinglaw13_small).bind fun s4 =>
 ((ladinglaw13_light a1.1 a1.2.1 (a1.2.2.map (Uun 2))).bind fun l5 =>
 bif (!l5) then
 some true
 else
 ((ladinglaw13_light b2.1 b2.2.1 (b2.2.2.map (Uun 2))).bind fun l6 =>
 bif (!l6) then
  some true
 else
  ((ladinglaw13_light c3.1 c3.2.1 (c3.2.2.map (Uun 2))).bind fun l7 =>
  bif (!l7) then
  some true
  else
  ((licence_Right a1.1 a1.2.1 (a1.2.2.map (Uun 2))).bind fun r8 =>
  bif (!r8) then
   some true
  else
   ((licence_Right b2.1 b2.2.1 (b2.2.2.map (Uun 2))).bind fun r9 =>
   bif (!r9) then
   some true
   else
   ((licence_Right c3.1 c3.2.1 (c3.2.2.map (Uun 2))).bind fun r10 =>
   some (!r10))))))).bind fun x =>
 ladinglaw13_LicenceImplies.j3 a1 b2 c3 s4 x
end Go.Proofs.YtcmibmohdnbhgaaGreatDoor
