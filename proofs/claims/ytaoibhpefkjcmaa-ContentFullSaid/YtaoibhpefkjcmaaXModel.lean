/-
  The functions as plain Lean.
-/
import Derived.Test.YtaoibhpefkjcmaaD2
import Derived.Test.YtaoibhpefkjcmaaProg
import Derived.KernelRfl
namespace Go.Proofs.Ytaoibhpefkjcmaa
open Go.Lad
set_option linter.unusedVariables false
/-- lading/content.size -/
noncomputable def content_size.b1 [Fuel] (list1 : List Bs) (n2 : Int) (v3 : Int) : Option ((Int × Int) ⊕ (Int)) :=
  bif (ltZ v3 (list1.length : Int)) then
    ((idx list1 v3).bind fun v4 =>
    (z64 (n2 + (v4.length : Int))).bind fun v5 =>
    (z64 (v3 + 1)).bind fun v6 =>
    some (.inl (v5, v6)))
  else
    some (.inr n2)
noncomputable def content_size [Fuel] (list1 : List Bs) : Option Int :=
  loopF (fun x => content_size.b1 list1 x.1 x.2) (0, 0)
/-- lading/content.Right -/
noncomputable def content_Right.b1 [Fuel] (list1 : List Bs) (v2 : Int) (seen3 : List (Bs × Bool)) : Option ((Int × List (Bs × Bool)) ⊕ (List (Bs × Bool))) :=
  bif (ltZ v2 (list1.length : Int)) then
    ((idx list1 v2).bind fun v4 =>
    (z64 (v2 + 1)).bind fun v5 =>
    some (.inl (v5, (putM seen3 v4 true))))
  else
    some (.inr seen3)
noncomputable def content_Right.j1 [Fuel] (list1 : List Bs) (seen6 : List (Bs × Bool)) : Option Bool :=
  (need (seen6.length ≤ 9223372036854775807)).bind fun _7 =>
  bif (eqZ (seen6.length : Int) (list1.length : Int)) then
    ((content_size list1).bind fun s8 =>
    some (leZ s8 1048576))
  else
    some false
noncomputable def content_Right [Fuel] (list1 : List Bs) : Option Bool :=
  (loopF (fun x => content_Right.b1 list1 x.1 x.2) (0, ([] : List (Bs × Bool)))).bind fun x =>
  content_Right.j1 list1 x
/-- slices.Index[[]string,string] -/
noncomputable def slices_Index_string_string.b1 [Fuel] (s1 : List Bs) (p2 : Bs) (v3 : Int) : Option ((Int) ⊕ (Int)) :=
  bif (ltZ v3 (s1.length : Int)) then
    ((idx s1 v3).bind fun v4 =>
    bif (decide (p2 = v4)) then
      some (.inr v3)
    else
      ((z64 (v3 + 1)).bind fun v5 =>
      some (.inl v5)))
  else
    some (.inr (-1))
noncomputable def slices_Index_string_string [Fuel] (s1 : List Bs) (p2 : Bs) : Option Int :=
  loopF (fun x => slices_Index_string_string.b1 s1 p2 x) 0
/-- lading/content.Print -/
noncomputable def content_Print [Fuel] (list1 : List Bs) (s2 : Bs) : Option Int :=
  (slices_Index_string_string list1 s2).bind fun s3 =>
  some s3
/-- slices.Clone[[]string,string] -/
noncomputable def slices_Clone_string_string [Fuel] (s1 : List Bs) : Option (List Bs) :=
  bothN s1 (
    some []) (
    (app? ([] : List Bs) s1).bind fun l2 =>
    some l2)
/-- lading/content.Add -/
noncomputable def content_Add [Fuel] (list1 : List Bs) (s2 : Bs) : Option (Int × Int × List Bs) :=
  (content_Right list1).bind fun r3 =>
  bif (!r3) then
    some (0, 1, [])
  else
    ((content_Print list1 s2).bind fun p4 =>
    bif (leZ 0 p4) then
      ((slices_Clone_string_string list1).bind fun s5 =>
      some (p4, 0, s5))
    else
      ((content_size list1).bind fun s6 =>
      (z64 (s6 + (s2.length : Int))).bind fun v7 =>
      bif (ltZ 1048576 v7) then
        some (0, 6, [])
      else
        ((slices_Clone_string_string list1).bind fun s8 =>
        (app? s8 ([s2] : List Bs)).bind fun l9 =>
        some ((list1.length : Int), 0, l9))))
/-- lading/content.Join -/
noncomputable def content_Join.b1 [Fuel] (a1 : List Bs) (v7 : Int) (v8 : List (Bs × Int)) : Option ((Int × List (Bs × Int)) ⊕ (List (Bs × Int))) :=
  bif (ltZ v7 (a1.length : Int)) then
    ((idx a1 v7).bind fun v9 =>
    (z64 (v7 + 1)).bind fun v10 =>
    some (.inl (v10, (putM v8 v9 v7))))
  else
    some (.inr v8)
noncomputable def content_Join.b2 [Fuel] (p2 : List Bs) (v12 : Int) (v13 : List Bs) (v14 : List (Bs × Int)) (v15 : List Int) : Option ((Int × (List Bs) × (List (Bs × Int)) × List Int) ⊕ ((List Bs) × List Int)) :=
  bif (ltZ v12 (p2.length : Int)) then
    ((idx p2 v12).bind fun v16 =>
    bif (!(lookM v14 v16).isSome) then
      ((app? v13 ([v16] : List Bs)).bind fun l17 =>
      (app? v15 ([((lookM (putM v14 v16 (v13.length : Int)) v16).getD 0)] : List Int)).bind fun l18 =>
      (z64 (v12 + 1)).bind fun v19 =>
      some (.inl (v19, l17, (putM v14 v16 (v13.length : Int)), l18)))
    else
      ((app? v15 ([((lookM v14 v16).getD 0)] : List Int)).bind fun l20 =>
      (z64 (v12 + 1)).bind fun v21 =>
      some (.inl (v21, v13, v14, l20))))
  else
    some (.inr (v13, v15))
noncomputable def content_Join.j1 [Fuel] (v22 : List Bs) (v23 : List Int) : Option (Int × (List Bs) × List Int) :=
  (content_size v22).bind fun s24 =>
  bif (ltZ 1048576 s24) then
    some (6, [], [])
  else
    some (0, v22, v23)
noncomputable def content_Join.j2 [Fuel] (p2 : List Bs) (s6 : List Bs) (v11 : List (Bs × Int)) : Option (Int × (List Bs) × List Int) :=
  (loopF (fun x => content_Join.b2 p2 x.1 x.2.1 x.2.2.1 x.2.2.2) (0, s6, v11, [])).bind fun x =>
  content_Join.j1 x.1 x.2
noncomputable def content_Join.j3 [Fuel] (a1 : List Bs) (p2 : List Bs) (v5 : Bool) : Option (Int × (List Bs) × List Int) :=
  bif v5 then
    some (1, [], [])
  else
    ((slices_Clone_string_string a1).bind fun s6 =>
    (loopF (fun x => content_Join.b1 a1 x.1 x.2) (0, ([] : List (Bs × Int)))).bind fun x =>
    content_Join.j2 p2 s6 x)
noncomputable def content_Join [Fuel] (a1 : List Bs) (p2 : List Bs) : Option (Int × (List Bs) × List Int) :=
  ((content_Right a1).bind fun r3 =>
  bif (!r3) then
    some true
  else
    ((content_Right p2).bind fun r4 =>
    some (!r4))).bind fun x =>
  content_Join.j3 a1 p2 x
/-- lading/content.Text -/
noncomputable def content_Text.j1 [Fuel] (list1 : List Bs) (n2 : Int) (v3 : Bool) : Option (Bs × Bool) :=
  bif v3 then
    some (([] : Bs), false)
  else
    ((idx list1 n2).bind fun v4 =>
    some (v4, true))
noncomputable def content_Text [Fuel] (list1 : List Bs) (n2 : Int) : Option (Bs × Bool) :=
  (bif (ltZ n2 0) then
    some true
  else
    some (leZ (list1.length : Int) n2)).bind fun x =>
  content_Text.j1 list1 n2 x
/-- lading/content.Texts -/
noncomputable def content_Texts.b1 [Fuel] (list1 : List Bs) (prints2 : List Int) (v3 : Int) (out4 : List Bs) : Option ((Int × List Bs) ⊕ (Int × List Bs)) :=
  bif (ltZ v3 (prints2.length : Int)) then
    ((idx prints2 v3).bind fun v5 =>
    (content_Text list1 v5).bind fun t6 =>
    bif (!t6.2) then
      some (.inr (4, []))
    else
      ((app? out4 ([t6.1] : List Bs)).bind fun l7 =>
      (z64 (v3 + 1)).bind fun v8 =>
      some (.inl (v8, l7))))
  else
    some (.inr (0, out4))
noncomputable def content_Texts [Fuel] (list1 : List Bs) (prints2 : List Int) : Option (Int × List Bs) :=
  loopF (fun x => content_Texts.b1 list1 prints2 x.1 x.2) (0, [])
/-- lading/ladingref04.Same -/
noncomputable def ladingref04_Same.b1 [Fuel] (a1 : List Bs) (b2 : List Bs) (i3 : Int) : Option ((Int) ⊕ (Bool)) :=
  bif (ltZ i3 (a1.length : Int)) then
    ((idx a1 i3).bind fun v4 =>
    (idx b2 i3).bind fun v5 =>
    bif (!decide (v4 = v5)) then
      some (.inr false)
    else
      ((z64 (i3 + 1)).bind fun v6 =>
      some (.inl v6)))
  else
    some (.inr true)
noncomputable def ladingref04_Same [Fuel] (a1 : List Bs) (b2 : List Bs) : Option Bool :=
  bif (!eqZ (a1.length : Int) (b2.length : Int)) then
    some false
  else
    (loopF (fun x => ladingref04_Same.b1 a1 b2 x) 0)
/-- lading/ladingref04.Ints -/
noncomputable def ladingref04_Ints.b1 [Fuel] (a1 : List Int) (b2 : List Int) (i3 : Int) : Option ((Int) ⊕ (Bool)) :=
  bif (ltZ i3 (a1.length : Int)) then
    ((idx a1 i3).bind fun v4 =>
    (idx b2 i3).bind fun v5 =>
    bif (!eqZ v4 v5) then
      some (.inr false)
    else
      ((z64 (i3 + 1)).bind fun v6 =>
      some (.inl v6)))
  else
    some (.inr true)
noncomputable def ladingref04_Ints [Fuel] (a1 : List Int) (b2 : List Int) : Option Bool :=
  bif (!eqZ (a1.length : Int) (b2.length : Int)) then
    some false
  else
    (loopF (fun x => ladingref04_Ints.b1 a1 b2 x) 0)
/-- lading/ladinglaw04.small -/
noncomputable def ladinglaw04_small.j1 [Fuel] (a2 : Int × Int × List Bs) (v6 : Bool) (v11 : Bool) : Option Bool :=
  bif v6 then
    (bif v11 then
      ((content_Print a2.2.2 ([] : Bs)).bind fun p12 =>
      bif (eqZ p12 1) then
        ((content_Print a2.2.2 ([120] : Bs)).bind fun p13 =>
        bif (eqZ p13 (-1)) then
          ((content_Right a2.2.2).bind fun r14 =>
          bif r14 then
            ((content_Right ([([97] : Bs), ([97] : Bs)] : List Bs)).bind fun r15 =>
            some (!r15))
          else
            some false)
        else
          some false)
      else
        some false)
    else
      some false)
  else
    some false
noncomputable def ladinglaw04_small.j2 [Fuel] (a2 : Int × Int × List Bs) (j3 : Int × (List Bs) × List Int) (t4 : Int × List Bs) (v6 : Bool) : Option Bool :=
  ((ladingref04_Same a2.2.2 ([([97, 98] : Bs), ([] : Bs)] : List Bs)).bind fun s7 =>
  bif s7 then
    ((ladingref04_Same j3.2.1 ([([97] : Bs), ([98] : Bs), ([99] : Bs)] : List Bs)).bind fun s8 =>
    bif s8 then
      ((ladingref04_Ints j3.2.2 ([2, 0] : List Int)).bind fun i9 =>
      bif i9 then
        ((ladingref04_Same t4.2 ([([98] : Bs), ([97] : Bs), ([98] : Bs)] : List Bs)).bind fun s10 =>
        some s10)
      else
        some false)
    else
      some false)
  else
    some false).bind fun x =>
  ladinglaw04_small.j1 a2 v6 x
noncomputable def ladinglaw04_small [Fuel] : Option Bool :=
  (content_Add [] ([97, 98] : Bs)).bind fun a1 =>
  (content_Add a1.2.2 ([] : Bs)).bind fun a2 =>
  (content_Join ([([97] : Bs), ([98] : Bs)] : List Bs) ([([99] : Bs), ([97] : Bs)] : List Bs)).bind fun j3 =>
  (content_Texts ([([97] : Bs), ([98] : Bs)] : List Bs) ([1, 0, 1] : List Int)).bind fun t4 =>
  (content_Texts ([([97] : Bs), ([98] : Bs)] : List Bs) ([2] : List Int)).bind fun t5 =>
  (bif (eqZ a1.2.1 0) then
    (bif (eqZ a2.2.1 0) then
      (bif (eqZ j3.1 0) then
        (bif (eqZ t4.1 0) then
          (bif (eqZ t5.1 4) then
            (bif (eqZ a1.1 0) then
              some (eqZ a2.1 1)
            else
              some false)
          else
            some false)
        else
          some false)
      else
        some false)
    else
      some false)
  else
    some false).bind fun x =>
  ladinglaw04_small.j2 a2 j3 t4 x
/-- lading/ladinglaw04.few -/
noncomputable def ladinglaw04_few.j1 [Fuel] (l1 : List Bs) (i2 : Int) (v3 : Bool) : Option ((Int) ⊕ (Bool)) :=
  bif v3 then
    ((idx l1 i2).bind fun v4 =>
    bif (ltZ 100 (v4.length : Int)) then
      some (.inr false)
    else
      ((z64 (i2 + 1)).bind fun v5 =>
      some (.inl v5)))
  else
    some (.inr (leZ (l1.length : Int) 24))
noncomputable def ladinglaw04_few.b1 [Fuel] (l1 : List Bs) (i2 : Int) : Option ((Int) ⊕ (Bool)) :=
  (bif (ltZ i2 (l1.length : Int)) then
    some (ltZ i2 25)
  else
    some false).bind fun x =>
  ladinglaw04_few.j1 l1 i2 x
noncomputable def ladinglaw04_few [Fuel] (l1 : List Bs) : Option Bool :=
  loopF (fun x => ladinglaw04_few.b1 l1 x) 0
/-- lading/ladingref04.Print -/
noncomputable def ladingref04_Print.b1 [Fuel] (list1 : List Bs) (s2 : Bs) (i3 : Int) : Option ((Int) ⊕ (Int)) :=
  bif (ltZ i3 (list1.length : Int)) then
    ((idx list1 i3).bind fun v4 =>
    bif (decide (v4 = s2)) then
      some (.inr i3)
    else
      ((z64 (i3 + 1)).bind fun v5 =>
      some (.inl v5)))
  else
    some (.inr (-1))
noncomputable def ladingref04_Print [Fuel] (list1 : List Bs) (s2 : Bs) : Option Int :=
  loopF (fun x => ladingref04_Print.b1 list1 s2 x) 0
/-- lading/ladingref04.bytes -/
noncomputable def ladingref04_bytes.b1 [Fuel] (list1 : List Bs) (n2 : Int) (i3 : Int) : Option ((Int × Int) ⊕ (Int)) :=
  bif (ltZ i3 (list1.length : Int)) then
    ((idx list1 i3).bind fun v4 =>
    (z64 (n2 + (v4.length : Int))).bind fun v5 =>
    (z64 (i3 + 1)).bind fun v6 =>
    some (.inl (v5, v6)))
  else
    some (.inr n2)
noncomputable def ladingref04_bytes [Fuel] (list1 : List Bs) : Option Int :=
  loopF (fun x => ladingref04_bytes.b1 list1 x.1 x.2) (0, 0)
/-- lading/ladingref04.Right -/
noncomputable def ladingref04_Right.b1 [Fuel] (list1 : List Bs) (i2 : Int) : Option ((Int) ⊕ ((Unit) ⊕ (Bool))) :=
  bif (ltZ i2 (list1.length : Int)) then
    ((idx list1 i2).bind fun v3 =>
    (ladingref04_Print list1 v3).bind fun p4 =>
    bif (!eqZ p4 i2) then
      some (.inr (.inr false))
    else
      ((z64 (i2 + 1)).bind fun v5 =>
      some (.inl v5)))
  else
    some (.inr (.inl ()))
noncomputable def ladingref04_Right.j1 [Fuel] (list1 : List Bs) : Option Bool :=
  (ladingref04_bytes list1).bind fun b6 =>
  some (leZ b6 1048576)
noncomputable def ladingref04_Right [Fuel] (list1 : List Bs) : Option Bool :=
  (loopF (fun x => ladingref04_Right.b1 list1 x) 0).bind fun x => match x with
  | .inl x =>
    ladingref04_Right.j1 list1
  | .inr r => some r
/-- lading/ladingref04.Add -/
noncomputable def ladingref04_Add [Fuel] (list1 : List Bs) (s2 : Bs) : Option (Int × Int × List Bs) :=
  (ladingref04_Right list1).bind fun r3 =>
  bif (!r3) then
    some (0, 1, [])
  else
    ((app? ([] : List Bs) list1).bind fun l4 =>
    (ladingref04_Print list1 s2).bind fun p5 =>
    bif (leZ 0 p5) then
      some (p5, 0, l4)
    else
      ((ladingref04_bytes list1).bind fun b6 =>
      (z64 (b6 + (s2.length : Int))).bind fun v7 =>
      bif (ltZ 1048576 v7) then
        some (0, 6, [])
      else
        ((app? l4 ([s2] : List Bs)).bind fun l8 =>
        some ((list1.length : Int), 0, l8))))
/-- lading/ladingref04.Join -/
noncomputable def ladingref04_Join.b1 [Fuel] (b2 : List Bs) (i7 : Int) (out8 : List Bs) (prints9 : List Int) : Option ((Int × (List Bs) × List Int) ⊕ ((List Bs) × List Int)) :=
  bif (ltZ i7 (b2.length : Int)) then
    ((idx b2 i7).bind fun v10 =>
    (ladingref04_Print out8 v10).bind fun p11 =>
    bif (ltZ p11 0) then
      ((idx b2 i7).bind fun v12 =>
      (app? out8 ([v12] : List Bs)).bind fun l13 =>
      (app? prints9 ([(out8.length : Int)] : List Int)).bind fun l14 =>
      (z64 (i7 + 1)).bind fun v15 =>
      some (.inl (v15, l13, l14)))
    else
      ((app? prints9 ([p11] : List Int)).bind fun l16 =>
      (z64 (i7 + 1)).bind fun v17 =>
      some (.inl (v17, out8, l16))))
  else
    some (.inr (out8, prints9))
noncomputable def ladingref04_Join.j1 [Fuel] (out18 : List Bs) (prints19 : List Int) : Option (Int × (List Bs) × List Int) :=
  (ladingref04_bytes out18).bind fun b20 =>
  bif (ltZ 1048576 b20) then
    some (6, [], [])
  else
    some (0, out18, prints19)
noncomputable def ladingref04_Join.j2 [Fuel] (a1 : List Bs) (b2 : List Bs) (v5 : Bool) : Option (Int × (List Bs) × List Int) :=
  bif v5 then
    some (1, [], [])
  else
    ((app? ([] : List Bs) a1).bind fun l6 =>
    (loopF (fun x => ladingref04_Join.b1 b2 x.1 x.2.1 x.2.2) (0, l6, [])).bind fun x =>
    ladingref04_Join.j1 x.1 x.2)
noncomputable def ladingref04_Join [Fuel] (a1 : List Bs) (b2 : List Bs) : Option (Int × (List Bs) × List Int) :=
  ((ladingref04_Right a1).bind fun r3 =>
  bif (!r3) then
    some true
  else
    ((ladingref04_Right b2).bind fun r4 =>
    some (!r4))).bind fun x =>
  ladingref04_Join.j2 a1 b2 x
/-- lading/ladingref04.Text -/
noncomputable def ladingref04_Text.j1 [Fuel] (list1 : List Bs) (n2 : Int) (v3 : Bool) : Option (Bs × Bool) :=
  bif v3 then
    some (([] : Bs), false)
  else
    ((idx list1 n2).bind fun v4 =>
    some (v4, true))
noncomputable def ladingref04_Text [Fuel] (list1 : List Bs) (n2 : Int) : Option (Bs × Bool) :=
  (bif (ltZ n2 0) then
    some true
  else
    some (leZ (list1.length : Int) n2)).bind fun x =>
  ladingref04_Text.j1 list1 n2 x
/-- lading/ladingref04.Texts -/
noncomputable def ladingref04_Texts.b1 [Fuel] (list1 : List Bs) (prints2 : List Int) (i3 : Int) (out4 : List Bs) : Option ((Int × List Bs) ⊕ (Int × List Bs)) :=
  bif (ltZ i3 (prints2.length : Int)) then
    ((idx prints2 i3).bind fun v5 =>
    (ladingref04_Text list1 v5).bind fun t6 =>
    bif (!t6.2) then
      some (.inr (4, []))
    else
      ((app? out4 ([t6.1] : List Bs)).bind fun l7 =>
      (z64 (i3 + 1)).bind fun v8 =>
      some (.inl (v8, l7))))
  else
    some (.inr (0, out4))
noncomputable def ladingref04_Texts [Fuel] (list1 : List Bs) (prints2 : List Int) : Option (Int × List Bs) :=
  loopF (fun x => ladingref04_Texts.b1 list1 prints2 x.1 x.2) (0, [])
/-- lading/ladinglaw04.ContentTells -/
noncomputable def ladinglaw04_ContentTells.j1 [Fuel] (v21 : Int) (v26 : Bool) : Option ((Int) ⊕ ((Unit) ⊕ (Bool))) :=
  bif v26 then
    some (.inr (.inr false))
  else
    ((z64 (v21 + 1)).bind fun v27 =>
    some (.inl v27))
noncomputable def ladinglaw04_ContentTells.b1 [Fuel] (a1 : List Bs) (p4 : List Int) (v21 : Int) : Option ((Int) ⊕ ((Unit) ⊕ (Bool))) :=
  bif (ltZ v21 (p4.length : Int)) then
    ((idx p4 v21).bind fun v22 =>
    (content_Text a1 v22).bind fun t23 =>
    (idx p4 v21).bind fun v24 =>
    (ladingref04_Text a1 v24).bind fun t25 =>
    (bif (!decide (t23.1 = t25.1)) then
      some true
    else
      some (!(t23.2 == t25.2))).bind fun x =>
    ladinglaw04_ContentTells.j1 v21 x)
  else
    some (.inr (.inl ()))
noncomputable def ladinglaw04_ContentTells.j2 [Fuel] (a1 : List Bs) (p3 : Bs) (s5 : Bool) : Option Bool :=
  bif s5 then
    ((content_Right a1).bind fun r28 =>
    (ladingref04_Right a1).bind fun r29 =>
    bif (r28 == r29) then
      ((content_Print a1 p3).bind fun p30 =>
      (ladingref04_Print a1 p3).bind fun p31 =>
      some (eqZ p30 p31))
    else
      some false)
  else
    some false
noncomputable def ladinglaw04_ContentTells.j3 [Fuel] (a1 : List Bs) (p3 : Bs) (p4 : List Int) (s5 : Bool) (v20 : Bool) : Option Bool :=
  bif v20 then
    some false
  else
    ((loopF (fun x => ladinglaw04_ContentTells.b1 a1 p4 x) 0).bind fun x => match x with
    | .inl x =>
      ladinglaw04_ContentTells.j2 a1 p3 s5
    | .inr r => some r)
noncomputable def ladinglaw04_ContentTells.j4 [Fuel] (a1 : List Bs) (p2 : List Bs) (p3 : Bs) (p4 : List Int) (s5 : Bool) (v12 : Bool) : Option Bool :=
  bif v12 then
    some false
  else
    ((content_Join a1 p2).bind fun j13 =>
    (ladingref04_Join a1 p2).bind fun j14 =>
    (content_Texts a1 p4).bind fun t15 =>
    (ladingref04_Texts a1 p4).bind fun t16 =>
    (bif (!eqZ j13.1 j14.1) then
      some true
    else
      ((ladingref04_Same j13.2.1 j14.2.1).bind fun s17 =>
      bif (!s17) then
        some true
      else
        ((ladingref04_Ints j13.2.2 j14.2.2).bind fun i18 =>
        bif (!i18) then
          some true
        else
          (bif (!eqZ t15.1 t16.1) then
            some true
          else
            ((ladingref04_Same t15.2 t16.2).bind fun s19 =>
            some (!s19)))))).bind fun x =>
    ladinglaw04_ContentTells.j3 a1 p3 p4 s5 x)
noncomputable def ladinglaw04_ContentTells.j5 [Fuel] (a1 : List Bs) (p2 : List Bs) (p3 : Bs) (p4 : List Int) (s5 : Bool) (v8 : Bool) : Option Bool :=
  bif v8 then
    some s5
  else
    ((content_Add a1 p3).bind fun a9 =>
    (ladingref04_Add a1 p3).bind fun a10 =>
    (bif (!eqZ a9.1 a10.1) then
      some true
    else
      (bif (!eqZ a9.2.1 a10.2.1) then
        some true
      else
        ((ladingref04_Same a9.2.2 a10.2.2).bind fun s11 =>
        some (!s11)))).bind fun x =>
    ladinglaw04_ContentTells.j4 a1 p2 p3 p4 s5 x)
noncomputable def ladinglaw04_ContentTells [Fuel] (a1 : List Bs) (p2 : List Bs) (p3 : Bs) (p4 : List Int) : Option Bool :=
  (ladinglaw04_small).bind fun s5 =>
  ((ladinglaw04_few a1).bind fun f6 =>
  bif (!f6) then
    some true
  else
    ((ladinglaw04_few p2).bind fun f7 =>
    bif (!f7) then
      some true
    else
      (bif (ltZ 100 (p3.length : Int)) then
        some true
      else
        some (ltZ 24 (p4.length : Int))))).bind fun x =>
  ladinglaw04_ContentTells.j5 a1 p2 p3 p4 s5 x
/-- lading/ladinglaw04.ContentBack -/
noncomputable def ladinglaw04_ContentBack.j1 [Fuel] (v5 : Int) (v6 : List Int) (a8 : Int × Int × List Bs) (v18 : Bool) : Option (((List Bs) × Int × List Int) ⊕ (((List Bs) × List Int) ⊕ (Bool))) :=
  bif v18 then
    some (.inr (.inr false))
  else
    ((app? v6 ([a8.1] : List Int)).bind fun l19 =>
    (z64 (v5 + 1)).bind fun v20 =>
    some (.inl (a8.2.2, v20, l19)))
noncomputable def ladinglaw04_ContentBack.j2 [Fuel] (l1 : List Bs) (v4 : List Bs) (v5 : Int) (v6 : List Int) (a8 : Int × Int × List Bs) (v11 : Bool) : Option (((List Bs) × Int × List Int) ⊕ (((List Bs) × List Int) ⊕ (Bool))) :=
  bif v11 then
    some (.inr (.inr false))
  else
    (((idx a8.2.2 a8.1).bind fun _12 =>
    (idx a8.2.2 a8.1).bind fun v13 =>
    (idx l1 v5).bind fun v14 =>
    bif (!decide (v13 = v14)) then
      some true
    else
      ((cut a8.2.2 0 (v4.length : Int)).bind fun _15 =>
      (cut a8.2.2 0 (v4.length : Int)).bind fun l16 =>
      (ladingref04_Same l16 v4).bind fun s17 =>
      some (!s17))).bind fun x =>
    ladinglaw04_ContentBack.j1 v5 v6 a8 x)
noncomputable def ladinglaw04_ContentBack.b1 [Fuel] (l1 : List Bs) (v4 : List Bs) (v5 : Int) (v6 : List Int) : Option (((List Bs) × Int × List Int) ⊕ (((List Bs) × List Int) ⊕ (Bool))) :=
  bif (ltZ v5 (l1.length : Int)) then
    ((idx l1 v5).bind fun v7 =>
    (content_Add v4 v7).bind fun a8 =>
    (bif (!eqZ a8.2.1 0) then
      some true
    else
      (bif (ltZ a8.1 0) then
        some true
      else
        (bif (leZ (a8.2.2.length : Int) a8.1) then
          some true
        else
          ((z64 ((v4.length : Int) + 1)).bind fun v9 =>
          bif (ltZ v9 (a8.2.2.length : Int)) then
            some true
          else
            (bif (ltZ (a8.2.2.length : Int) (v4.length : Int)) then
              some true
            else
              ((content_Right a8.2.2).bind fun r10 =>
              some (!r10))))))).bind fun x =>
    ladinglaw04_ContentBack.j2 l1 v4 v5 v6 a8 x)
  else
    some (.inr (.inl (v4, v6)))
noncomputable def ladinglaw04_ContentBack.b2 [Fuel] (l1 : List Bs) (v22 : List Int) (v23 : Int) (v36 : Int) : Option ((Int) ⊕ ((Int) ⊕ ((Unit) ⊕ (Bool)))) :=
  bif (ltZ v36 v23) then
    ((idx v22 v36).bind fun _37 =>
    (idx v22 v36).bind fun v38 =>
    (idx v22 v23).bind fun _39 =>
    (idx v22 v23).bind fun v40 =>
    (idx l1 v36).bind fun v41 =>
    (idx l1 v23).bind fun v42 =>
    bif (!((eqZ v38 v40) == (decide (v41 = v42)))) then
      some (.inr (.inr (.inr false)))
    else
      ((z64 (v36 + 1)).bind fun v43 =>
      some (.inl v43)))
  else
    (Option.map Sum.inr ((z64 (v23 + 1)).bind fun v44 =>
    some (.inl v44)))
noncomputable def ladinglaw04_ContentBack.j3 [Fuel] (l1 : List Bs) (v22 : List Int) (v23 : Int) (v35 : Bool) : Option ((Int) ⊕ ((Unit) ⊕ (Bool))) :=
  bif v35 then
    some (.inr (.inr false))
  else
    (loopF (fun x => ladinglaw04_ContentBack.b2 l1 v22 v23 x) 0)
noncomputable def ladinglaw04_ContentBack.b3 [Fuel] (l1 : List Bs) (v21 : List Bs) (v22 : List Int) (v23 : Int) : Option ((Int) ⊕ ((Unit) ⊕ (Bool))) :=
  bif (ltZ v23 (l1.length : Int)) then
    ((idx l1 v23).bind fun v24 =>
    (content_Add v21 v24).bind fun a25 =>
    (idx v22 v23).bind fun _26 =>
    (idx v22 v23).bind fun v27 =>
    (content_Text v21 v27).bind fun t28 =>
    (bif (!eqZ a25.2.1 0) then
      some true
    else
      ((idx v22 v23).bind fun _29 =>
      (idx v22 v23).bind fun v30 =>
      bif (!eqZ a25.1 v30) then
        some true
      else
        ((ladingref04_Same a25.2.2 v21).bind fun s31 =>
        bif (!s31) then
          some true
        else
          (bif (!t28.2) then
            some true
          else
            ((idx l1 v23).bind fun v32 =>
            bif (!decide (t28.1 = v32)) then
              some true
            else
              ((idx l1 v23).bind fun v33 =>
              (content_Print v21 v33).bind fun p34 =>
              some (!eqZ p34 a25.1))))))).bind fun x =>
    ladinglaw04_ContentBack.j3 l1 v22 v23 x)
  else
    some (.inr (.inl ()))
noncomputable def ladinglaw04_ContentBack.j4 [Fuel] (l1 : List Bs) (s2 : Bool) (v21 : List Bs) (v22 : List Int) : Option Bool :=
  (content_Texts v21 v22).bind fun t45 =>
  bif s2 then
    (bif (eqZ t45.1 0) then
      ((ladingref04_Same t45.2 l1).bind fun s46 =>
      some s46)
    else
      some false)
  else
    some false
noncomputable def ladinglaw04_ContentBack.j5 [Fuel] (l1 : List Bs) (s2 : Bool) (v21 : List Bs) (v22 : List Int) : Option Bool :=
  (loopF (fun x => ladinglaw04_ContentBack.b3 l1 v21 v22 x) 0).bind fun x => match x with
  | .inl x =>
    ladinglaw04_ContentBack.j4 l1 s2 v21 v22
  | .inr r => some r
noncomputable def ladinglaw04_ContentBack [Fuel] (l1 : List Bs) : Option Bool :=
  (ladinglaw04_small).bind fun s2 =>
  (ladinglaw04_few l1).bind fun f3 =>
  bif (!f3) then
    some s2
  else
    ((loopF (fun x => ladinglaw04_ContentBack.b1 l1 x.1 x.2.1 x.2.2) ([], 0, [])).bind fun x => match x with
    | .inl x =>
      ladinglaw04_ContentBack.j5 l1 s2 x.1 x.2
    | .inr r => some r)
/-- lading/ladinglaw04.ContentPrints -/
noncomputable def ladinglaw04_ContentPrints.b1 [Fuel] (l1 : List Bs) (p2 : Bs) (v8 : Bool) (v9 : Int) : Option ((Bool × Int) ⊕ ((Bool) ⊕ (Bool))) :=
  bif (ltZ v9 (l1.length : Int)) then
    ((idx l1 v9).bind fun v10 =>
    (content_Print l1 v10).bind fun p11 =>
    bif (!eqZ p11 v9) then
      some (.inr (.inr false))
    else
      (bif v8 then
        ((z64 (v9 + 1)).bind fun v12 =>
        some (.inl (true, v12)))
      else
        ((idx l1 v9).bind fun v13 =>
        (z64 (v9 + 1)).bind fun v14 =>
        some (.inl ((decide (v13 = p2)), v14)))))
  else
    some (.inr (.inl v8))
noncomputable def ladinglaw04_ContentPrints.j1 [Fuel] (l1 : List Bs) (p3 : Int) (s4 : Bool) (t17 : Bs × Bool) (v19 : Bool) : Option Bool :=
  bif v19 then
    some false
  else
    (bif s4 then
      (bif (leZ 0 p3) then
        (bif (t17.2 == (ltZ p3 (l1.length : Int))) then
          (bif t17.2 then
            some true
          else
            some (decide (t17.1 = ([] : Bs))))
        else
          some false)
      else
        (bif (t17.2 == false) then
          (bif t17.2 then
            some true
          else
            some (decide (t17.1 = ([] : Bs))))
        else
          some false))
    else
      some false)
noncomputable def ladinglaw04_ContentPrints.j2 [Fuel] (l1 : List Bs) (p2 : Bs) (p3 : Int) (s4 : Bool) (v15 : Bool) : Option Bool :=
  (content_Print l1 p2).bind fun p16 =>
  (content_Text l1 p3).bind fun t17 =>
  (content_Text l1 p16).bind fun t18 =>
  (bif (!(v15 == t18.2)) then
    some true
  else
    (bif v15 then
      (bif (!decide (t18.1 = p2)) then
        some true
      else
        (bif (!v15) then
          some (!eqZ p16 (-1))
        else
          some false))
    else
      (bif (!v15) then
        some (!eqZ p16 (-1))
      else
        some false))).bind fun x =>
  ladinglaw04_ContentPrints.j1 l1 p3 s4 t17 x
noncomputable def ladinglaw04_ContentPrints.j3 [Fuel] (l1 : List Bs) (p2 : Bs) (p3 : Int) (s4 : Bool) (v7 : Bool) : Option Bool :=
  bif v7 then
    some s4
  else
    ((loopF (fun x => ladinglaw04_ContentPrints.b1 l1 p2 x.1 x.2) (false, 0)).bind fun x => match x with
    | .inl x =>
      ladinglaw04_ContentPrints.j2 l1 p2 p3 s4 x
    | .inr r => some r)
noncomputable def ladinglaw04_ContentPrints [Fuel] (l1 : List Bs) (p2 : Bs) (p3 : Int) : Option Bool :=
  (ladinglaw04_small).bind fun s4 =>
  ((ladinglaw04_few l1).bind fun f5 =>
  bif (!f5) then
    some true
  else
    (bif (ltZ 100 (p2.length : Int)) then
      some true
    else
      ((content_Right l1).bind fun r6 =>
      some (!r6)))).bind fun x =>
  ladinglaw04_ContentPrints.j3 l1 p2 p3 s4 x
/-- lading/ladinglaw04.ContentJoins -/
noncomputable def ladinglaw04_ContentJoins.b1 [Fuel] (p2 : List Bs) (j9 : Int × (List Bs) × List Int) (v16 : Int) : Option ((Int) ⊕ ((Unit) ⊕ (Bool))) :=
  bif (ltZ v16 (j9.2.1.length : Int)) then
    ((idx j9.2.1 v16).bind fun _17 =>
    (idx j9.2.1 v16).bind fun v18 =>
    (content_Print p2 v18).bind fun p19 =>
    bif (ltZ p19 0) then
      some (.inr (.inr false))
    else
      ((z64 (v16 + 1)).bind fun v20 =>
      some (.inl v20)))
  else
    some (.inr (.inl ()))
noncomputable def ladinglaw04_ContentJoins.b2 [Fuel] (j22 : Int × (List Bs) × List Int) (v23 : Int) : Option ((Int) ⊕ ((Unit) ⊕ (Bool))) :=
  bif (ltZ v23 (j22.2.2.length : Int)) then
    ((idx j22.2.2 v23).bind fun _24 =>
    (idx j22.2.2 v23).bind fun v25 =>
    bif (!eqZ v25 v23) then
      some (.inr (.inr false))
    else
      ((z64 (v23 + 1)).bind fun v26 =>
      some (.inl v26)))
  else
    some (.inr (.inl ()))
noncomputable def ladinglaw04_ContentJoins.j1 [Fuel] (a1 : List Bs) (p2 : List Bs) (s3 : Bool) (j9 : Int × (List Bs) × List Int) (t15 : Int × List Bs) (j21 : Int × (List Bs) × List Int) (j22 : Int × (List Bs) × List Int) : Option Bool :=
  bif s3 then
    (bif (eqZ t15.1 0) then
      (bif (eqZ j21.1 0) then
        (bif (eqZ j22.1 0) then
          ((ladingref04_Same t15.2 p2).bind fun s27 =>
          bif s27 then
            ((ladingref04_Same j21.2.1 j9.2.1).bind fun s28 =>
            bif s28 then
              ((ladingref04_Same j22.2.1 j9.2.1).bind fun s29 =>
              bif s29 then
                some (eqZ (j22.2.2.length : Int) (a1.length : Int))
              else
                some false)
            else
              some false)
          else
            some false)
        else
          some false)
      else
        some false)
    else
      some false)
  else
    some false
noncomputable def ladinglaw04_ContentJoins.j2 [Fuel] (a1 : List Bs) (p2 : List Bs) (s3 : Bool) (j9 : Int × (List Bs) × List Int) (t15 : Int × List Bs) : Option Bool :=
  (content_Join j9.2.1 p2).bind fun j21 =>
  (content_Join j9.2.1 a1).bind fun j22 =>
  (loopF (fun x => ladinglaw04_ContentJoins.b2 j22 x) 0).bind fun x => match x with
  | .inl x =>
    ladinglaw04_ContentJoins.j1 a1 p2 s3 j9 t15 j21 j22
  | .inr r => some r
noncomputable def ladinglaw04_ContentJoins.j3 [Fuel] (a1 : List Bs) (p2 : List Bs) (s3 : Bool) (j9 : Int × (List Bs) × List Int) (v11 : Bool) : Option Bool :=
  bif v11 then
    some false
  else
    ((cut j9.2.1 0 (a1.length : Int)).bind fun _12 =>
    (cut j9.2.1 0 (a1.length : Int)).bind fun l13 =>
    (ladingref04_Same l13 a1).bind fun s14 =>
    bif (!s14) then
      some false
    else
      ((content_Texts j9.2.1 j9.2.2).bind fun t15 =>
      (loopF (fun x => ladinglaw04_ContentJoins.b1 p2 j9 x) (a1.length : Int)).bind fun x => match x with
      | .inl x =>
        ladinglaw04_ContentJoins.j2 a1 p2 s3 j9 t15
      | .inr r => some r))
noncomputable def ladinglaw04_ContentJoins.j4 [Fuel] (a1 : List Bs) (p2 : List Bs) (s3 : Bool) (v8 : Bool) : Option Bool :=
  bif v8 then
    some s3
  else
    ((content_Join a1 p2).bind fun j9 =>
    (bif (!eqZ j9.1 0) then
      some true
    else
      (bif (!eqZ (j9.2.2.length : Int) (p2.length : Int)) then
        some true
      else
        (bif (ltZ (j9.2.1.length : Int) (a1.length : Int)) then
          some true
        else
          ((content_Right j9.2.1).bind fun r10 =>
          some (!r10))))).bind fun x =>
    ladinglaw04_ContentJoins.j3 a1 p2 s3 j9 x)
noncomputable def ladinglaw04_ContentJoins [Fuel] (a1 : List Bs) (p2 : List Bs) : Option Bool :=
  (ladinglaw04_small).bind fun s3 =>
  ((ladinglaw04_few a1).bind fun f4 =>
  bif (!f4) then
    some true
  else
    ((ladinglaw04_few p2).bind fun f5 =>
    bif (!f5) then
      some true
    else
      ((content_Right a1).bind fun r6 =>
      bif (!r6) then
        some true
      else
        ((content_Right p2).bind fun r7 =>
        some (!r7))))).bind fun x =>
  ladinglaw04_ContentJoins.j4 a1 p2 s3 x
/-- lading/ladinglaw04.ContentFull -/
noncomputable def ladinglaw04_ContentFull.j1 [Fuel] (s1 : Bs) (p2 : Int) (s3 : Bool) (a8 : Int × Int × List Bs) (v16 : Bool) : Option Bool :=
  bif v16 then
    some false
  else
    (bif (!(leZ (s1.length : Int) p2)) then
      (bif s3 then
        (bif (eqZ a8.2.1 6) then
          (bif (eqZ (a8.2.2.length : Int) 0) then
            some (eqZ a8.1 0)
          else
            some false)
        else
          some false)
      else
        some false)
    else
      (bif s3 then
        (bif (eqZ a8.2.1 0) then
          (bif (eqZ a8.1 1) then
            some (eqZ (a8.2.2.length : Int) 2)
          else
            some false)
        else
          some false)
      else
        some false))
noncomputable def ladinglaw04_ContentFull.j2 [Fuel] (s1 : Bs) (p2 : Int) (s3 : Bool) (v4 : Bool) : Option Bool :=
  bif v4 then
    some s3
  else
    ((z64 ((1048576 : Int) - p2)).bind fun v5 =>
    (msNeed v5 v5).bind fun _6 =>
    (need ((u8sT (repT v5 (0 : Int))).length ≤ 9223372036854775807)).bind fun _7 =>
    (content_Add ([(u8sT (repT v5 (0 : Int)))] : List Bs) s1).bind fun a8 =>
    (content_Add ([(u8sT (repT v5 (0 : Int)))] : List Bs) (u8sT (repT v5 (0 : Int)))).bind fun a9 =>
    (z64 (p2 + 1)).bind fun v10 =>
    (msNeed v10 v10).bind fun _11 =>
    (need ((u8sT (repT v10 (0 : Int))).length ≤ 9223372036854775807)).bind fun _12 =>
    (content_Add ([(u8sT (repT v5 (0 : Int))), (u8sT (repT v10 (0 : Int)))] : List Bs) s1).bind fun a13 =>
    (bif (!eqZ a9.2.1 0) then
      some true
    else
      (bif (!eqZ a9.1 0) then
        some true
      else
        ((content_Right ([(u8sT (repT v5 (0 : Int))), (u8sT (repT v10 (0 : Int)))] : List Bs)).bind fun r14 =>
        bif r14 then
          some true
        else
          (bif (!eqZ a13.2.1 1) then
            some true
          else
            ((content_Right ([(u8sT (repT v5 (0 : Int)))] : List Bs)).bind fun r15 =>
            some (!r15)))))).bind fun x =>
    ladinglaw04_ContentFull.j1 s1 p2 s3 a8 x)
noncomputable def ladinglaw04_ContentFull [Fuel] (s1 : Bs) (p2 : Int) : Option Bool :=
  (ladinglaw04_small).bind fun s3 =>
  (bif (ltZ 100 (s1.length : Int)) then
    some true
  else
    some (ltZ 100 p2)).bind fun x =>
  ladinglaw04_ContentFull.j2 s1 p2 s3 x
end Go.Proofs.Ytaoibhpefkjcmaa
