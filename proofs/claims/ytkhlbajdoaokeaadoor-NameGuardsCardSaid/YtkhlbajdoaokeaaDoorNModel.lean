/-
  The functions as plain Lean.
-/
import Derived.Test.YtkhlbajdoaokeaaDoorE2
import Derived.Test.YtkhlbajdoaokeaaDoorProg
import Derived.KernelRfl
namespace Go.Proofs.YtkhlbajdoaokeaaDoor
open Go.Lad
set_option linter.unusedVariables false
/-- Name, Until -/
abbrev GHold : Type := Bs × Int
/-- Drop, Name, Now, Until -/
abbrev GAct : Type := Bool × Bs × Int × Int
/-- strings.Split -/
noncomputable def strings_Split [Fuel] (s : Bs) (sep : Bs) : Option (List Bs) := splitF s sep
/-- lading/name.Right -/
noncomputable def name_Right.j1 [Fuel] (v8 : Int) (v10 : Bool) : Option ((Int) ⊕ ((Int) ⊕ (Bool))) :=
  bif v10 then
    some (.inr (.inr false))
  else
    ((z64 (v8 + 1)).bind fun v11 =>
    some (.inl v11))
noncomputable def name_Right.b1 [Fuel] (v3 : Int) (v4 : Bs) (v8 : Int) : Option ((Int) ⊕ ((Int) ⊕ (Bool))) :=
  bif (ltZ v8 ((bytesT v4).length : Int)) then
    ((idx (bytesT v4) v8).bind fun v9 =>
    (bif (ltZ v9 97) then
      (bif (ltZ v9 48) then
        some true
      else
        some (ltZ 57 v9))
    else
      (bif (ltZ 122 v9) then
        (bif (ltZ v9 48) then
          some true
        else
          some (ltZ 57 v9))
      else
        some false)).bind fun x =>
    name_Right.j1 v8 x)
  else
    (Option.map Sum.inr ((z64 (v3 + 1)).bind fun v12 =>
    some (.inl v12)))
noncomputable def name_Right.j2 [Fuel] (v3 : Int) (v4 : Bs) (v7 : Bool) : Option ((Int) ⊕ (Bool)) :=
  bif v7 then
    some (.inr false)
  else
    (loopF (fun x => name_Right.b1 v3 v4 x) 0)
noncomputable def name_Right.b2 [Fuel] (s2 : List Bs) (v3 : Int) : Option ((Int) ⊕ (Bool)) :=
  bif (ltZ v3 (s2.length : Int)) then
    ((idx s2 v3).bind fun v4 =>
    (bif (decide (v4 = ([] : Bs))) then
      some true
    else
      (bif (eqZ v3 0) then
        ((bAt v4 0).bind fun c5 =>
        bif (ltZ c5 97) then
          some true
        else
          ((bAt v4 0).bind fun c6 =>
          some (ltZ 122 c6)))
      else
        some false)).bind fun x =>
    name_Right.j2 v3 v4 x)
  else
    some (.inr true)
noncomputable def name_Right [Fuel] (name1 : Bs) : Option Bool :=
  bif (ltZ 20 (name1.length : Int)) then
    some false
  else
    ((strings_Split name1 ([45] : Bs)).bind fun s2 =>
    loopF (fun x => name_Right.b2 s2 x) 0)
/-- slices.Clone[[]lading/api.Hold,lading/api.Hold] -/
noncomputable def slices_Clone_api_Hold_api_Hold [Fuel] (s1 : List GHold) : Option (List GHold) :=
  bothN s1 (
    some []) (
    (app? ([] : List GHold) s1).bind fun l2 =>
    some l2)
/-- lading/name.Drop$1 -/
noncomputable def name_Drop_1 [Fuel] (h1 : GHold) (p2 : Bs) : Option Bool :=
  some (decide (h1.1 = p2))
/-- slices.IndexFunc[[]lading/api.Hold,lading/api.Hold] -/
noncomputable def slices_IndexFunc_api_Hold_api_Hold.b1 [Fuel] (s1 : List GHold) (p2 : Bs) (v3 : Int) : Option ((Int) ⊕ (Int)) :=
  bif (ltZ v3 (s1.length : Int)) then
    ((idx s1 v3).bind fun v4 =>
    (name_Drop_1 v4 p2).bind fun v'5 =>
    bif v'5 then
      some (.inr v3)
    else
      ((z64 (v3 + 1)).bind fun v6 =>
      some (.inl v6)))
  else
    some (.inr (-1))
noncomputable def slices_IndexFunc_api_Hold_api_Hold [Fuel] (s1 : List GHold) (p2 : Bs) : Option Int :=
  loopF (fun x => slices_IndexFunc_api_Hold_api_Hold.b1 s1 p2 x) 0
/-- lading/name.Drop -/
noncomputable def name_Drop.j1 [Fuel] (holds1 : List GHold) (name2 : Bs) (until3 : Int) (v5 : Bool) : Option ((List GHold) × Int) :=
  bif v5 then
    some ([], 1)
  else
    ((slices_Clone_api_Hold_api_Hold holds1).bind fun h6 =>
    (slices_IndexFunc_api_Hold_api_Hold h6 name2).bind fun h7 =>
    bif (ltZ h7 0) then
      ((app? h6 ([(name2, until3)] : List GHold)).bind fun l8 =>
      some (l8, 0))
    else
      ((idx h6 h7).bind fun _9 =>
      (idx h6 h7).bind fun v10 =>
      (idx h6 h7).bind fun _11 =>
      (idx h6 h7).bind fun v12 =>
      some ((h6.set h7.toNat (v12.1, (max v10.2 until3))), 0)))
noncomputable def name_Drop [Fuel] (holds1 : List GHold) (name2 : Bs) (until3 : Int) : Option ((List GHold) × Int) :=
  (name_Right name2).bind fun r4 =>
  bif (!r4) then
    some ([], 12)
  else
    ((bif (ltZ until3 0) then
      some true
    else
      some (ltZ 1073741824 until3)).bind fun x =>
    name_Drop.j1 holds1 name2 until3 x)
/-- internal/stringslite.HasPrefix -/
noncomputable def internal_stringslite_HasPrefix [Fuel] (s1 : Bs) (prefix2 : Bs) : Option Bool :=
  bif (leZ (prefix2.length : Int) (s1.length : Int)) then
    ((cut s1 0 (prefix2.length : Int)).bind fun s3 =>
    some (decide (s3 = prefix2)))
  else
    some false
/-- strings.HasPrefix -/
noncomputable def strings_HasPrefix [Fuel] (s1 : Bs) (prefix2 : Bs) : Option Bool :=
  (internal_stringslite_HasPrefix s1 prefix2).bind fun h3 =>
  some h3
/-- lading/name.Skeleton -/
noncomputable def name_Skeleton.j1 [Fuel] (name2 : Bs) (out3 : List Int) (v15 : Bool) : Option ((Bs × List Int) ⊕ (Bs)) :=
  bif v15 then
    ((app? out3 ([108] : List Int)).bind fun l16 =>
    (cut name2 1 (name2.length : Int)).bind fun s17 =>
    some (.inl (s17, l16)))
  else
    ((bAt name2 0).bind fun c18 =>
    bif (!eqZ c18 45) then
      ((bAt name2 0).bind fun c19 =>
      (app? out3 ([c19] : List Int)).bind fun l20 =>
      (cut name2 1 (name2.length : Int)).bind fun s21 =>
      some (.inl (s21, l20)))
    else
      ((cut name2 1 (name2.length : Int)).bind fun s22 =>
      some (.inl (s22, out3))))
noncomputable def name_Skeleton.b1 [Fuel] (name2 : Bs) (out3 : List Int) : Option ((Bs × List Int) ⊕ (Bs)) :=
  bif (!decide (name2 = ([] : Bs))) then
    ((strings_HasPrefix name2 ([114, 110] : Bs)).bind fun h4 =>
    bif h4 then
      ((app? out3 ([109] : List Int)).bind fun l5 =>
      (cut name2 2 (name2.length : Int)).bind fun s6 =>
      some (.inl (s6, l5)))
    else
      ((strings_HasPrefix name2 ([118, 118] : Bs)).bind fun h7 =>
      bif h7 then
        ((app? out3 ([119] : List Int)).bind fun l8 =>
        (cut name2 2 (name2.length : Int)).bind fun s9 =>
        some (.inl (s9, l8)))
      else
        ((bAt name2 0).bind fun c10 =>
        bif (eqZ c10 48) then
          ((app? out3 ([111] : List Int)).bind fun l11 =>
          (cut name2 1 (name2.length : Int)).bind fun s12 =>
          some (.inl (s12, l11)))
        else
          (((bAt name2 0).bind fun c13 =>
          bif (eqZ c13 49) then
            some true
          else
            ((bAt name2 0).bind fun c14 =>
            some (eqZ c14 105))).bind fun x =>
          name_Skeleton.j1 name2 out3 x))))
  else
    (Option.map Sum.inr ((need ((u8sT out3).length ≤ 9223372036854775807)).bind fun _23 =>
    some (u8sT out3)))
noncomputable def name_Skeleton [Fuel] (name1 : Bs) : Option Bs :=
  loopF (fun x => name_Skeleton.b1 x.1 x.2) (name1, [])
/-- lading/name.Confusable -/
noncomputable def name_Confusable [Fuel] (a1 : Bs) (b2 : Bs) : Option Bool :=
  (name_Skeleton a1).bind fun s3 =>
  (name_Skeleton b2).bind fun s4 =>
  some (decide (s3 = s4))
/-- lading/name.Guard$1 -/
noncomputable def name_Guard_1 [Fuel] (s1 : Bs) (p2 : Bs) : Option Bool :=
  (name_Confusable s1 p2).bind fun c3 =>
  some c3
/-- slices.IndexFunc[[]string,string] -/
noncomputable def slices_IndexFunc_string_string.b1 [Fuel] (s1 : List Bs) (p2 : Bs) (v3 : Int) : Option ((Int) ⊕ (Int)) :=
  bif (ltZ v3 (s1.length : Int)) then
    ((idx s1 v3).bind fun v4 =>
    (name_Guard_1 v4 p2).bind fun v'5 =>
    bif v'5 then
      some (.inr v3)
    else
      ((z64 (v3 + 1)).bind fun v6 =>
      some (.inl v6)))
  else
    some (.inr (-1))
noncomputable def slices_IndexFunc_string_string [Fuel] (s1 : List Bs) (p2 : Bs) : Option Int :=
  loopF (fun x => slices_IndexFunc_string_string.b1 s1 p2 x) 0
/-- lading/name.Guard -/
noncomputable def name_Guard [Fuel] (names1 : List Bs) (name2 : Bs) : Option (Bs × Bool) :=
  (slices_IndexFunc_string_string names1 name2).bind fun s3 =>
  bif (ltZ s3 0) then
    some (([] : Bs), false)
  else
    ((idx names1 s3).bind fun v4 =>
    some (v4, true))
/-- slices.Index[[]string,string] -/
noncomputable def slices_Index_string_string.b1 [Fuel] (s1 : List Bs) (p2 : Bs) (v3 : Int) : Option ((Int) ⊕ (Int)) :=
  bif (ltZ v3 (s1.length : Int)) then
    ((idx s1 v3).bind fun v4 =>
    bif (decide (p2 = v4)) then
      some (.inr v3)
    else
      ((z64 (v3 + 1)).bind fun v5 =>
      some (.inl v5)))
  else
    some (.inr (-1))
noncomputable def slices_Index_string_string [Fuel] (s1 : List Bs) (p2 : Bs) : Option Int :=
  loopF (fun x => slices_Index_string_string.b1 s1 p2 x) 0
/-- slices.Contains[[]string,string] -/
noncomputable def slices_Contains_string_string [Fuel] (s1 : List Bs) (p2 : Bs) : Option Bool :=
  (slices_Index_string_string s1 p2).bind fun s3 =>
  some (leZ 0 s3)
/-- lading/name.Held$1 -/
noncomputable def name_Held_1 [Fuel] (h1 : GHold) (p2 : Int) (p3 : Bs) : Option Bool :=
  bif (ltZ p2 h1.2) then
    ((name_Confusable h1.1 p3).bind fun c4 =>
    some c4)
  else
    some false
/-- slices.IndexFunc[[]lading/api.Hold,lading/api.Hold] -/
noncomputable def slices_IndexFunc_api_Hold_api_Hold_v2.b1 [Fuel] (s1 : List GHold) (p2 : Int) (p3 : Bs) (v4 : Int) : Option ((Int) ⊕ (Int)) :=
  bif (ltZ v4 (s1.length : Int)) then
    ((idx s1 v4).bind fun v5 =>
    (name_Held_1 v5 p2 p3).bind fun v'6 =>
    bif v'6 then
      some (.inr v4)
    else
      ((z64 (v4 + 1)).bind fun v7 =>
      some (.inl v7)))
  else
    some (.inr (-1))
noncomputable def slices_IndexFunc_api_Hold_api_Hold_v2 [Fuel] (s1 : List GHold) (p2 : Int) (p3 : Bs) : Option Int :=
  loopF (fun x => slices_IndexFunc_api_Hold_api_Hold_v2.b1 s1 p2 p3 x) 0
/-- slices.ContainsFunc[[]lading/api.Hold,lading/api.Hold] -/
noncomputable def slices_ContainsFunc_api_Hold_api_Hold [Fuel] (s1 : List GHold) (p2 : Int) (p3 : Bs) : Option Bool :=
  (slices_IndexFunc_api_Hold_api_Hold_v2 s1 p2 p3).bind fun v4 =>
  some (leZ 0 v4)
/-- lading/name.Held -/
noncomputable def name_Held [Fuel] (holds1 : List GHold) (name2 : Bs) (now3 : Int) : Option Bool :=
  (slices_ContainsFunc_api_Hold_api_Hold holds1 now3 name2).bind fun h4 =>
  some h4
/-- lading/name.Free -/
noncomputable def name_Free [Fuel] (names1 : List Bs) (holds2 : List GHold) (name3 : Bs) (now4 : Int) : Option Int :=
  (name_Right name3).bind fun r5 =>
  bif (!r5) then
    some 12
  else
    ((slices_Contains_string_string names1 name3).bind fun s6 =>
    bif s6 then
      some 5
    else
      ((name_Guard names1 name3).bind fun g7 =>
      bif g7.2 then
        some 27
      else
        ((name_Held holds2 name3 now4).bind fun h8 =>
        bif h8 then
          some 31
        else
          some 0)))
/-- lading/ladinglaw10.small -/
noncomputable def ladinglaw10_small.j1 [Fuel] (d1 : (List GHold) × Int) (g2 : Bs × Bool) (v10 : Bool) : Option Bool :=
  bif v10 then
    (bif (eqZ d1.2 0) then
      ((name_Free [] d1.1 ([103, 101, 48] : Bs) 8).bind fun f11 =>
      bif (eqZ f11 31) then
        ((name_Free [] d1.1 ([103, 101, 48] : Bs) 9).bind fun f12 =>
        bif (eqZ f12 0) then
          ((name_Free ([([108, 105, 98, 111] : Bs)] : List Bs) [] ([108, 105, 98, 48] : Bs) 0).bind fun f13 =>
          bif (eqZ f13 27) then
            (bif (decide (g2.1 = ([108, 105, 98, 111] : Bs))) then
              some g2.2
            else
              some false)
          else
            some false)
        else
          some false)
      else
        some false)
    else
      some false)
  else
    some false
noncomputable def ladinglaw10_small [Fuel] : Option Bool :=
  (name_Drop [] ([103, 101, 111] : Bs) 9).bind fun d1 =>
  (name_Guard ([([120] : Bs), ([108, 105, 98, 111] : Bs)] : List Bs) ([108, 105, 98, 48] : Bs)).bind fun g2 =>
  ((name_Skeleton ([99, 111, 114, 110, 45, 118, 118, 105, 49] : Bs)).bind fun s3 =>
  bif (decide (s3 = ([99, 111, 109, 119, 108, 108] : Bs))) then
    ((name_Confusable ([109, 111, 100, 101, 114, 110] : Bs) ([109, 111, 100, 101, 109] : Bs)).bind fun c4 =>
    bif c4 then
      ((name_Confusable ([97] : Bs) ([98] : Bs)).bind fun c5 =>
      bif (!c5) then
        ((name_Right ([97, 45, 98, 57] : Bs)).bind fun r6 =>
        bif r6 then
          ((name_Right ([97, 45, 45, 98] : Bs)).bind fun r7 =>
          bif (!r7) then
            ((name_Right ([57, 97] : Bs)).bind fun r8 =>
            bif (!r8) then
              ((name_Right ([97, 45] : Bs)).bind fun r9 =>
              some (!r9))
            else
              some false)
          else
            some false)
        else
          some false)
      else
        some false)
    else
      some false)
  else
    some false).bind fun x =>
  ladinglaw10_small.j1 d1 g2 x
/-- lading/ladinglaw10.short -/
noncomputable def ladinglaw10_short.j1 [Fuel] (l1 : List Bs) (i2 : Int) (v3 : Bool) : Option ((Int) ⊕ (Bool)) :=
  bif v3 then
    ((idx l1 i2).bind fun v4 =>
    bif (ltZ 60 (v4.length : Int)) then
      some (.inr false)
    else
      ((z64 (i2 + 1)).bind fun v5 =>
      some (.inl v5)))
  else
    some (.inr (leZ (l1.length : Int) 40))
noncomputable def ladinglaw10_short.b1 [Fuel] (l1 : List Bs) (i2 : Int) : Option ((Int) ⊕ (Bool)) :=
  (bif (ltZ i2 (l1.length : Int)) then
    some (ltZ i2 41)
  else
    some false).bind fun x =>
  ladinglaw10_short.j1 l1 i2 x
noncomputable def ladinglaw10_short [Fuel] (l1 : List Bs) : Option Bool :=
  loopF (fun x => ladinglaw10_short.b1 l1 x) 0
/-- lading/ladinglaw10.few -/
noncomputable def ladinglaw10_few.j1 [Fuel] (l1 : List GHold) (i2 : Int) (v3 : Bool) : Option ((Int) ⊕ (Bool)) :=
  bif v3 then
    ((idx l1 i2).bind fun v4 =>
    bif (ltZ 60 (v4.1.length : Int)) then
      some (.inr false)
    else
      ((z64 (i2 + 1)).bind fun v5 =>
      some (.inl v5)))
  else
    some (.inr (leZ (l1.length : Int) 40))
noncomputable def ladinglaw10_few.b1 [Fuel] (l1 : List GHold) (i2 : Int) : Option ((Int) ⊕ (Bool)) :=
  (bif (ltZ i2 (l1.length : Int)) then
    some (ltZ i2 41)
  else
    some false).bind fun x =>
  ladinglaw10_few.j1 l1 i2 x
noncomputable def ladinglaw10_few [Fuel] (l1 : List GHold) : Option Bool :=
  loopF (fun x => ladinglaw10_few.b1 l1 x) 0
/-- lading/ladingref10.Skeleton -/
noncomputable def ladingref10_Skeleton.j1 [Fuel] (name1 : Bs) (out2 : Bs) (i3 : Int) (v17 : Bool) : Option ((Bs × Int) ⊕ (Bs)) :=
  bif v17 then
    ((cat? out2 ([108] : Bs)).bind fun s18 =>
    (z64 (i3 + 1)).bind fun v19 =>
    some (.inl (s18, v19)))
  else
    ((z64 (i3 + 1)).bind fun v20 =>
    (cut name1 i3 v20).bind fun s21 =>
    (cat? out2 s21).bind fun s22 =>
    (z64 (i3 + 1)).bind fun v23 =>
    some (.inl (s22, v23)))
noncomputable def ladingref10_Skeleton.j2 [Fuel] (name1 : Bs) (out2 : Bs) (i3 : Int) (two7 : Bs) (v8 : Bool) : Option ((Bs × Int) ⊕ (Bs)) :=
  bif v8 then
    (bif (decide (two7 = ([114, 110] : Bs))) then
      ((cat? out2 ([109] : Bs)).bind fun s9 =>
      (z64 (i3 + 2)).bind fun v10 =>
      some (.inl (s9, v10)))
    else
      ((cat? out2 ([119] : Bs)).bind fun s11 =>
      (z64 (i3 + 2)).bind fun v12 =>
      some (.inl (s11, v12))))
  else
    ((bAt name1 i3).bind fun c13 =>
    bif (eqZ c13 45) then
      ((z64 (i3 + 1)).bind fun v14 =>
      some (.inl (out2, v14)))
    else
      (bif (eqZ c13 48) then
        ((cat? out2 ([111] : Bs)).bind fun s15 =>
        (z64 (i3 + 1)).bind fun v16 =>
        some (.inl (s15, v16)))
      else
        ((bif (eqZ c13 49) then
          some (eqZ c13 49)
        else
          some (eqZ c13 105)).bind fun x =>
        ladingref10_Skeleton.j1 name1 out2 i3 x)))
noncomputable def ladingref10_Skeleton.j3 [Fuel] (name1 : Bs) (out2 : Bs) (i3 : Int) (two7 : Bs) : Option ((Bs × Int) ⊕ (Bs)) :=
  (bif (decide (two7 = ([114, 110] : Bs))) then
    some true
  else
    some (decide (two7 = ([118, 118] : Bs)))).bind fun x =>
  ladingref10_Skeleton.j2 name1 out2 i3 two7 x
noncomputable def ladingref10_Skeleton.b1 [Fuel] (name1 : Bs) (out2 : Bs) (i3 : Int) : Option ((Bs × Int) ⊕ (Bs)) :=
  bif (ltZ i3 (name1.length : Int)) then
    (((z64 (i3 + 1)).bind fun v4 =>
    bif (ltZ v4 (name1.length : Int)) then
      ((z64 (i3 + 2)).bind fun v5 =>
      (cut name1 i3 v5).bind fun s6 =>
      some s6)
    else
      some ([] : Bs)).bind fun x =>
    ladingref10_Skeleton.j3 name1 out2 i3 x)
  else
    some (.inr out2)
noncomputable def ladingref10_Skeleton [Fuel] (name1 : Bs) : Option Bs :=
  loopF (fun x => ladingref10_Skeleton.b1 name1 x.1 x.2) (([] : Bs), 0)
/-- lading/ladingref10.Guard -/
noncomputable def ladingref10_Guard.b1 [Fuel] (names1 : List Bs) (s3 : Bs) (i4 : Int) : Option ((Int) ⊕ (Bs × Bool)) :=
  bif (ltZ i4 (names1.length : Int)) then
    ((idx names1 i4).bind fun v5 =>
    (ladingref10_Skeleton v5).bind fun s6 =>
    bif (decide (s6 = s3)) then
      ((idx names1 i4).bind fun v7 =>
      some (.inr (v7, true)))
    else
      ((z64 (i4 + 1)).bind fun v8 =>
      some (.inl v8)))
  else
    some (.inr (([] : Bs), false))
noncomputable def ladingref10_Guard [Fuel] (names1 : List Bs) (name2 : Bs) : Option (Bs × Bool) :=
  (ladingref10_Skeleton name2).bind fun s3 =>
  loopF (fun x => ladingref10_Guard.b1 names1 s3 x) 0
/-- lading/ladingref10.letter -/
noncomputable def ladingref10_letter [Fuel] (c1 : Int) : Option Bool :=
  bif (leZ 97 c1) then
    some (leZ c1 122)
  else
    some false
/-- lading/ladingref10.Right -/
noncomputable def ladingref10_Right.j1 [Fuel] (i3 : Int) (v11 : Bool) : Option ((Int) ⊕ (Bool)) :=
  bif v11 then
    some (.inr false)
  else
    ((z64 (i3 + 1)).bind fun v12 =>
    some (.inl v12))
noncomputable def ladingref10_Right.j2 [Fuel] (name1 : Bs) (i3 : Int) (c4 : Int) (v7 : Bool) : Option ((Int) ⊕ (Bool)) :=
  bif v7 then
    some (.inr false)
  else
    ((bif (eqZ c4 45) then
      ((z64 ((name1.length : Int) - 1)).bind fun v8 =>
      bif (eqZ i3 v8) then
        some true
      else
        ((z64 (i3 - 1)).bind fun v9 =>
        (bAt name1 v9).bind fun c10 =>
        some (eqZ c10 45)))
    else
      some false).bind fun x =>
    ladingref10_Right.j1 i3 x)
noncomputable def ladingref10_Right.j3 [Fuel] (name1 : Bs) (i3 : Int) (c4 : Int) (digit5 : Bool) : Option ((Int) ⊕ (Bool)) :=
  ((ladingref10_letter c4).bind fun l6 =>
  bif (!l6) then
    (bif (eqZ i3 0) then
      some true
    else
      (bif (!digit5) then
        some (!eqZ c4 45)
      else
        some false))
  else
    some false).bind fun x =>
  ladingref10_Right.j2 name1 i3 c4 x
noncomputable def ladingref10_Right.b1 [Fuel] (name1 : Bs) (i3 : Int) : Option ((Int) ⊕ (Bool)) :=
  bif (ltZ i3 (name1.length : Int)) then
    ((bAt name1 i3).bind fun c4 =>
    (bif (leZ 48 c4) then
      some (leZ c4 57)
    else
      some false).bind fun x =>
    ladingref10_Right.j3 name1 i3 c4 x)
  else
    some (.inr true)
noncomputable def ladingref10_Right.j4 [Fuel] (name1 : Bs) (v2 : Bool) : Option Bool :=
  bif v2 then
    some false
  else
    (loopF (fun x => ladingref10_Right.b1 name1 x) 0)
noncomputable def ladingref10_Right [Fuel] (name1 : Bs) : Option Bool :=
  (bif (ltZ (name1.length : Int) 1) then
    some true
  else
    some (ltZ 20 (name1.length : Int))).bind fun x =>
  ladingref10_Right.j4 name1 x
/-- lading/ladingref10.Drop -/
noncomputable def ladingref10_Drop.b1 [Fuel] (name2 : Bs) (until3 : Int) (l6 : List GHold) (i7 : Int) : Option ((Int) ⊕ ((List GHold) × Int)) :=
  bif (ltZ i7 (l6.length : Int)) then
    ((idx l6 i7).bind fun _8 =>
    (idx l6 i7).bind fun v9 =>
    bif (decide (v9.1 = name2)) then
      ((idx l6 i7).bind fun _10 =>
      (idx l6 i7).bind fun v11 =>
      (idx l6 i7).bind fun _12 =>
      (idx l6 i7).bind fun v13 =>
      some (.inr ((l6.set i7.toNat (v13.1, (max v11.2 until3))), 0)))
    else
      ((z64 (i7 + 1)).bind fun v14 =>
      some (.inl v14)))
  else
    (Option.map Sum.inr ((app? l6 ([(name2, until3)] : List GHold)).bind fun l15 =>
    some (l15, 0)))
noncomputable def ladingref10_Drop.j1 [Fuel] (holds1 : List GHold) (name2 : Bs) (until3 : Int) (v5 : Bool) : Option ((List GHold) × Int) :=
  bif v5 then
    some ([], 1)
  else
    ((app? ([] : List GHold) holds1).bind fun l6 =>
    loopF (fun x => ladingref10_Drop.b1 name2 until3 l6 x) 0)
noncomputable def ladingref10_Drop [Fuel] (holds1 : List GHold) (name2 : Bs) (until3 : Int) : Option ((List GHold) × Int) :=
  (ladingref10_Right name2).bind fun r4 =>
  bif (!r4) then
    some ([], 12)
  else
    ((bif (ltZ until3 0) then
      some true
    else
      some (ltZ 1073741824 until3)).bind fun x =>
    ladingref10_Drop.j1 holds1 name2 until3 x)
/-- lading/ladingref10.Same -/
noncomputable def ladingref10_Same.b1 [Fuel] (a1 : List GHold) (b2 : List GHold) (i3 : Int) : Option ((Int) ⊕ (Bool)) :=
  bif (ltZ i3 (a1.length : Int)) then
    ((idx a1 i3).bind fun v4 =>
    (idx b2 i3).bind fun v5 =>
    bif (!((decide (v4.1 = v5.1) && eqZ v4.2 v5.2))) then
      some (.inr false)
    else
      ((z64 (i3 + 1)).bind fun v6 =>
      some (.inl v6)))
  else
    some (.inr true)
noncomputable def ladingref10_Same [Fuel] (a1 : List GHold) (b2 : List GHold) : Option Bool :=
  bif (!eqZ (a1.length : Int) (b2.length : Int)) then
    some false
  else
    (loopF (fun x => ladingref10_Same.b1 a1 b2 x) 0)
/-- lading/ladingref10.Confusable -/
noncomputable def ladingref10_Confusable [Fuel] (a1 : Bs) (b2 : Bs) : Option Bool :=
  (ladingref10_Skeleton a1).bind fun s3 =>
  (ladingref10_Skeleton b2).bind fun s4 =>
  some (decide (s3 = s4))
/-- lading/ladingref10.Held -/
noncomputable def ladingref10_Held.j1 [Fuel] (i5 : Int) (v9 : Bool) : Option ((Int) ⊕ (Bool)) :=
  bif v9 then
    some (.inr true)
  else
    ((z64 (i5 + 1)).bind fun v10 =>
    some (.inl v10))
noncomputable def ladingref10_Held.b1 [Fuel] (holds1 : List GHold) (now3 : Int) (s4 : Bs) (i5 : Int) : Option ((Int) ⊕ (Bool)) :=
  bif (ltZ i5 (holds1.length : Int)) then
    (((idx holds1 i5).bind fun v6 =>
    bif (ltZ now3 v6.2) then
      ((idx holds1 i5).bind fun v7 =>
      (ladingref10_Skeleton v7.1).bind fun s8 =>
      some (decide (s8 = s4)))
    else
      some false).bind fun x =>
    ladingref10_Held.j1 i5 x)
  else
    some (.inr false)
noncomputable def ladingref10_Held [Fuel] (holds1 : List GHold) (name2 : Bs) (now3 : Int) : Option Bool :=
  (ladingref10_Skeleton name2).bind fun s4 =>
  loopF (fun x => ladingref10_Held.b1 holds1 now3 s4 x) 0
/-- lading/ladingref10.Free -/
noncomputable def ladingref10_Free.b1 [Fuel] (names1 : List Bs) (name3 : Bs) (i6 : Int) : Option ((Int) ⊕ ((Unit) ⊕ (Int))) :=
  bif (ltZ i6 (names1.length : Int)) then
    ((idx names1 i6).bind fun v7 =>
    bif (decide (v7 = name3)) then
      some (.inr (.inr 5))
    else
      ((z64 (i6 + 1)).bind fun v8 =>
      some (.inl v8)))
  else
    some (.inr (.inl ()))
noncomputable def ladingref10_Free.j1 [Fuel] (names1 : List Bs) (holds2 : List GHold) (name3 : Bs) (now4 : Int) : Option Int :=
  (ladingref10_Guard names1 name3).bind fun g9 =>
  bif g9.2 then
    some 27
  else
    ((ladingref10_Held holds2 name3 now4).bind fun h10 =>
    bif h10 then
      some 31
    else
      some 0)
noncomputable def ladingref10_Free [Fuel] (names1 : List Bs) (holds2 : List GHold) (name3 : Bs) (now4 : Int) : Option Int :=
  (ladingref10_Right name3).bind fun r5 =>
  bif (!r5) then
    some 12
  else
    ((loopF (fun x => ladingref10_Free.b1 names1 name3 x) 0).bind fun x => match x with
    | .inl x =>
      ladingref10_Free.j1 names1 holds2 name3 now4
    | .inr r => some r)
/-- lading/ladinglaw10.NameTells -/
noncomputable def ladinglaw10_NameTells.b1 [Fuel] (names1 : List Bs) (p3 : Bs) (v20 : Int) : Option ((Int) ⊕ ((Unit) ⊕ (Bool))) :=
  bif (ltZ v20 (names1.length : Int)) then
    ((idx names1 v20).bind fun v21 =>
    (name_Confusable v21 p3).bind fun c22 =>
    (idx names1 v20).bind fun v23 =>
    (ladingref10_Confusable v23 p3).bind fun c24 =>
    bif (!(c22 == c24)) then
      some (.inr (.inr false))
    else
      ((z64 (v20 + 1)).bind fun v25 =>
      some (.inl v25)))
  else
    some (.inr (.inl ()))
noncomputable def ladinglaw10_NameTells.j1 [Fuel] (names1 : List Bs) (p2 : List GHold) (p3 : Bs) (p4 : Int) (s6 : Bool) : Option Bool :=
  bif s6 then
    ((name_Held p2 p3 p4).bind fun h26 =>
    (ladingref10_Held p2 p3 p4).bind fun h27 =>
    bif (h26 == h27) then
      ((name_Free names1 p2 p3 p4).bind fun f28 =>
      (ladingref10_Free names1 p2 p3 p4).bind fun f29 =>
      some (eqZ f28 f29))
    else
      some false)
  else
    some false
noncomputable def ladinglaw10_NameTells.j2 [Fuel] (names1 : List Bs) (p2 : List GHold) (p3 : Bs) (p4 : Int) (s6 : Bool) (v19 : Bool) : Option Bool :=
  bif v19 then
    some false
  else
    ((loopF (fun x => ladinglaw10_NameTells.b1 names1 p3 x) 0).bind fun x => match x with
    | .inl x =>
      ladinglaw10_NameTells.j1 names1 p2 p3 p4 s6
    | .inr r => some r)
noncomputable def ladinglaw10_NameTells.j3 [Fuel] (names1 : List Bs) (p2 : List GHold) (p3 : Bs) (p4 : Int) (p5 : Int) (s6 : Bool) (v9 : Bool) : Option Bool :=
  bif v9 then
    some s6
  else
    ((name_Guard names1 p3).bind fun g10 =>
    (ladingref10_Guard names1 p3).bind fun g11 =>
    (name_Drop p2 p3 p5).bind fun d12 =>
    (ladingref10_Drop p2 p3 p5).bind fun d13 =>
    (bif (!decide (g10.1 = g11.1)) then
      some true
    else
      (bif (!(g10.2 == g11.2)) then
        some true
      else
        (bif (!eqZ d12.2 d13.2) then
          some true
        else
          ((ladingref10_Same d12.1 d13.1).bind fun s14 =>
          bif (!s14) then
            some true
          else
            ((name_Right p3).bind fun r15 =>
            (ladingref10_Right p3).bind fun r16 =>
            bif (!(r15 == r16)) then
              some true
            else
              ((name_Skeleton p3).bind fun s17 =>
              (ladingref10_Skeleton p3).bind fun s18 =>
              some (!decide (s17 = s18)))))))).bind fun x =>
    ladinglaw10_NameTells.j2 names1 p2 p3 p4 s6 x)
noncomputable def ladinglaw10_NameTells [Fuel] (names1 : List Bs) (p2 : List GHold) (p3 : Bs) (p4 : Int) (p5 : Int) : Option Bool :=
  (ladinglaw10_small).bind fun s6 =>
  ((ladinglaw10_short names1).bind fun s7 =>
  bif (!s7) then
    some true
  else
    ((ladinglaw10_few p2).bind fun f8 =>
    bif (!f8) then
      some true
    else
      some (ltZ 60 (p3.length : Int)))).bind fun x =>
  ladinglaw10_NameTells.j3 names1 p2 p3 p4 p5 s6 x
/-- lading/ladinglaw10.NameAlike -/
noncomputable def ladinglaw10_NameAlike.b1 [Fuel] (a1 : Bs) (p2 : Bs) (s4 : Bool) (v12 : Bool) (v13 : Int) : Option ((Int) ⊕ (Bool)) :=
  bif (ltZ v13 (([([48] : Bs), ([49] : Bs), ([49] : Bs), ([105] : Bs), ([114, 110] : Bs)] : List Bs).length : Int)) then
    ((idx ([([48] : Bs), ([49] : Bs), ([49] : Bs), ([105] : Bs), ([114, 110] : Bs)] : List Bs) v13).bind fun v14 =>
    (cat? a1 v14).bind fun s15 =>
    (cat? s15 p2).bind fun s16 =>
    (idx ([([111] : Bs), ([105] : Bs), ([108] : Bs), ([108] : Bs), ([109] : Bs)] : List Bs) v13).bind fun v17 =>
    (cat? a1 v17).bind fun s18 =>
    (cat? s18 p2).bind fun s19 =>
    (name_Confusable s16 s19).bind fun c20 =>
    bif (!c20) then
      some (.inr false)
    else
      ((z64 (v13 + 1)).bind fun v21 =>
      some (.inl v21)))
  else
    (Option.map Sum.inr (bif s4 then
      some v12
    else
      some false))
noncomputable def ladinglaw10_NameAlike.j1 [Fuel] (a1 : Bs) (p2 : Bs) (s4 : Bool) (v12 : Bool) : Option Bool :=
  loopF (fun x => ladinglaw10_NameAlike.b1 a1 p2 s4 v12 x) 0
noncomputable def ladinglaw10_NameAlike.j2 [Fuel] (a1 : Bs) (p2 : Bs) (p3 : Bs) (s4 : Bool) (v5 : Bool) : Option Bool :=
  bif v5 then
    some s4
  else
    (((name_Confusable a1 a1).bind fun c6 =>
    bif c6 then
      ((name_Confusable a1 p2).bind fun c7 =>
      (name_Confusable p2 a1).bind fun c8 =>
      bif (c7 == c8) then
        ((name_Confusable a1 p2).bind fun c9 =>
        bif (!c9) then
          some true
        else
          ((name_Confusable a1 p3).bind fun c10 =>
          (name_Confusable p2 p3).bind fun c11 =>
          some (c10 == c11)))
      else
        some false)
    else
      some false).bind fun x =>
    ladinglaw10_NameAlike.j1 a1 p2 s4 x)
noncomputable def ladinglaw10_NameAlike [Fuel] (a1 : Bs) (p2 : Bs) (p3 : Bs) : Option Bool :=
  (ladinglaw10_small).bind fun s4 =>
  (bif (ltZ 200 (a1.length : Int)) then
    some true
  else
    (bif (ltZ 200 (p2.length : Int)) then
      some true
    else
      some (ltZ 200 (p3.length : Int)))).bind fun x =>
  ladinglaw10_NameAlike.j2 a1 p2 p3 s4 x
/-- lading/ladinglaw10.NameHolds -/
noncomputable def ladinglaw10_NameHolds.j1 [Fuel] (holds1 : List GHold) (p3 : Bs) (p4 : Int) (s6 : Bool) (d13 : (List GHold) × Int) (v24 : Bool) : Option Bool :=
  bif v24 then
    some false
  else
    ((name_Free [] d13.1 p3 p4).bind fun f25 =>
    bif s6 then
      ((name_Right p3).bind fun r26 =>
      bif r26 then
        ((name_Held d13.1 p3 p4).bind fun h27 =>
        bif ((eqZ f25 0) == (!h27)) then
          (bif (leZ (holds1.length : Int) (d13.1.length : Int)) then
            ((z64 ((holds1.length : Int) + 1)).bind fun v28 =>
            some (leZ (d13.1.length : Int) v28))
          else
            some false)
        else
          some false)
      else
        (bif ((eqZ f25 0) == false) then
          (bif (leZ (holds1.length : Int) (d13.1.length : Int)) then
            ((z64 ((holds1.length : Int) + 1)).bind fun v29 =>
            some (leZ (d13.1.length : Int) v29))
          else
            some false)
        else
          some false))
    else
      some false)
noncomputable def ladinglaw10_NameHolds.j2 [Fuel] (holds1 : List GHold) (p2 : Bs) (p3 : Bs) (p4 : Int) (p5 : Int) (s6 : Bool) (d13 : (List GHold) × Int) (v15 : Bool) : Option Bool :=
  bif v15 then
    some false
  else
    (bif (!eqZ d13.2 0) then
      (bif s6 then
        (bif (eqZ (d13.1.length : Int) 0) then
          ((name_Right p2).bind fun r16 =>
          bif r16 then
            some true
          else
            ((name_Free [] [] p2 p4).bind fun f17 =>
            some (eqZ f17 12)))
        else
          some false)
      else
        some false)
    else
      (((name_Held holds1 p3 p4).bind fun h18 =>
      bif h18 then
        ((name_Held d13.1 p3 p4).bind fun h19 =>
        bif (!h19) then
          some true
        else
          ((name_Confusable p2 p3).bind fun c20 =>
          bif c20 then
            (bif (ltZ p4 p5) then
              ((name_Held d13.1 p3 p4).bind fun h21 =>
              some (!h21))
            else
              some false)
          else
            some false))
      else
        ((name_Confusable p2 p3).bind fun c22 =>
        bif c22 then
          (bif (ltZ p4 p5) then
            ((name_Held d13.1 p3 p4).bind fun h23 =>
            some (!h23))
          else
            some false)
        else
          some false)).bind fun x =>
      ladinglaw10_NameHolds.j1 holds1 p3 p4 s6 d13 x))
noncomputable def ladinglaw10_NameHolds.j3 [Fuel] (holds1 : List GHold) (p2 : Bs) (p3 : Bs) (p4 : Int) (p5 : Int) (s6 : Bool) (v12 : Bool) : Option Bool :=
  bif v12 then
    some false
  else
    ((name_Drop holds1 p2 p5).bind fun d13 =>
    ((name_Right p2).bind fun r14 =>
    bif r14 then
      (bif (leZ 0 p5) then
        some (!((eqZ d13.2 0) == (leZ p5 1073741824)))
      else
        some (!((eqZ d13.2 0) == false)))
    else
      some (!((eqZ d13.2 0) == false))).bind fun x =>
    ladinglaw10_NameHolds.j2 holds1 p2 p3 p4 p5 s6 d13 x)
noncomputable def ladinglaw10_NameHolds.j4 [Fuel] (holds1 : List GHold) (p2 : Bs) (p3 : Bs) (p4 : Int) (p5 : Int) (s6 : Bool) (v8 : Bool) : Option Bool :=
  bif v8 then
    some s6
  else
    (((name_Held holds1 p3 p4).bind fun h9 =>
    bif h9 then
      (bif (ltZ (-4611686018427387904) p4) then
        ((z64 (p4 - 1)).bind fun v10 =>
        (name_Held holds1 p3 v10).bind fun h11 =>
        some (!h11))
      else
        some false)
    else
      some false).bind fun x =>
    ladinglaw10_NameHolds.j3 holds1 p2 p3 p4 p5 s6 x)
noncomputable def ladinglaw10_NameHolds [Fuel] (holds1 : List GHold) (p2 : Bs) (p3 : Bs) (p4 : Int) (p5 : Int) : Option Bool :=
  (ladinglaw10_small).bind fun s6 =>
  ((ladinglaw10_few holds1).bind fun f7 =>
  bif (!f7) then
    some true
  else
    (bif (ltZ 60 (p2.length : Int)) then
      some true
    else
      some (ltZ 60 (p3.length : Int)))).bind fun x =>
  ladinglaw10_NameHolds.j4 holds1 p2 p3 p4 p5 s6 x
/-- lading/ladinglaw10.NameTurns -/
noncomputable def ladinglaw10_NameTurns.b1 [Fuel] (names1 : List Bs) (p2 : Bs) (v12 : Bool) (v13 : Bool) (v14 : Int) : Option ((Bool × Bool × Int) ⊕ (Bool × Bool)) :=
  bif (ltZ v14 (names1.length : Int)) then
    (bif v12 then
      (bif v13 then
        ((z64 (v14 + 1)).bind fun v15 =>
        some (.inl (true, true, v15)))
      else
        ((idx names1 v14).bind fun v16 =>
        (z64 (v14 + 1)).bind fun v17 =>
        some (.inl (true, (decide (v16 = p2)), v17))))
    else
      ((idx names1 v14).bind fun v18 =>
      (name_Confusable v18 p2).bind fun c19 =>
      bif v13 then
        ((z64 (v14 + 1)).bind fun v20 =>
        some (.inl (c19, true, v20)))
      else
        ((idx names1 v14).bind fun v21 =>
        (z64 (v14 + 1)).bind fun v22 =>
        some (.inl (c19, (decide (v21 = p2)), v22)))))
  else
    some (.inr (v12, v13))
noncomputable def ladinglaw10_NameTurns.j1 [Fuel] (p2 : Bs) (s4 : Bool) (f11 : Int) (v23 : Bool) (v24 : Bool) (v29 : Bool) : Option Bool :=
  bif v29 then
    some false
  else
    (bif s4 then
      ((name_Right p2).bind fun r30 =>
      bif r30 then
        (bif ((eqZ f11 0) == (!v23)) then
          ((name_Right p2).bind fun r31 =>
          bif r31 then
            some ((eqZ f11 5) == v24)
          else
            some ((eqZ f11 5) == false))
        else
          some false)
      else
        (bif ((eqZ f11 0) == false) then
          ((name_Right p2).bind fun r32 =>
          bif r32 then
            some ((eqZ f11 5) == v24)
          else
            some ((eqZ f11 5) == false))
        else
          some false))
    else
      some false)
noncomputable def ladinglaw10_NameTurns.j2 [Fuel] (names1 : List Bs) (p2 : Bs) (s4 : Bool) (l10 : List Bs) (f11 : Int) (v23 : Bool) (v24 : Bool) : Option Bool :=
  (name_Guard names1 p2).bind fun g25 =>
  (bif (!(g25.2 == v23)) then
    some true
  else
    (bif g25.2 then
      ((name_Confusable g25.1 p2).bind fun c26 =>
      bif (!c26) then
        some true
      else
        ((name_Free l10 [] p2 0).bind fun f27 =>
        some (!eqZ f11 f27)))
    else
      ((name_Free l10 [] p2 0).bind fun f28 =>
      some (!eqZ f11 f28)))).bind fun x =>
  ladinglaw10_NameTurns.j1 p2 s4 f11 v23 v24 x
noncomputable def ladinglaw10_NameTurns.j3 [Fuel] (names1 : List Bs) (p2 : Bs) (p3 : Int) (s4 : Bool) (v6 : Bool) : Option Bool :=
  bif v6 then
    some s4
  else
    ((cut names1 p3 (names1.length : Int)).bind fun l7 =>
    (app? ([] : List Bs) l7).bind fun l8 =>
    (cut names1 0 p3).bind fun l9 =>
    (app? l8 l9).bind fun l10 =>
    (name_Free names1 [] p2 0).bind fun f11 =>
    (loopF (fun x => ladinglaw10_NameTurns.b1 names1 p2 x.1 x.2.1 x.2.2) (false, false, 0)).bind fun x =>
    ladinglaw10_NameTurns.j2 names1 p2 s4 l10 f11 x.1 x.2)
noncomputable def ladinglaw10_NameTurns [Fuel] (names1 : List Bs) (p2 : Bs) (p3 : Int) : Option Bool :=
  (ladinglaw10_small).bind fun s4 =>
  ((ladinglaw10_short names1).bind fun s5 =>
  bif (!s5) then
    some true
  else
    (bif (ltZ 60 (p2.length : Int)) then
      some true
    else
      (bif (ltZ p3 0) then
        some true
      else
        some (ltZ (names1.length : Int) p3)))).bind fun x =>
  ladinglaw10_NameTurns.j3 names1 p2 p3 s4 x
/-- lading/ladinglaw10.NameGuards -/
noncomputable def ladinglaw10_NameGuards.b1 [Fuel] (v5 : List Bs) (v6 : GAct) (v7 : Int) (v8 : Int) : Option ((Int × Int) ⊕ (Int)) :=
  bif (ltZ v8 (v5.length : Int)) then
    ((idx v5 v8).bind fun _9 =>
    (idx v5 v8).bind fun v10 =>
    bif (decide (v10 = v6.2.1)) then
      ((z64 (v8 + 1)).bind fun v11 =>
      some (.inl (v8, v11)))
    else
      ((z64 (v8 + 1)).bind fun v12 =>
      some (.inl (v7, v12))))
  else
    some (.inr v7)
noncomputable def ladinglaw10_NameGuards.j1 [Fuel] (v3 : List GHold) (v5 : List Bs) (v13 : Int) (d15 : (List GHold) × Int) (v16 : Bool) : Option (((List GHold) × List Bs) ⊕ (((List GHold) × Int × List Bs) ⊕ (Bool))) :=
  bif v16 then
    some (.inr (.inr false))
  else
    (bif (eqZ d15.2 0) then
      ((cut v5 0 v13).bind fun _17 =>
      (cut v5 0 v13).bind fun l18 =>
      (app? ([] : List Bs) l18).bind fun l19 =>
      (z64 (v13 + 1)).bind fun v20 =>
      (cut v5 v20 (v5.length : Int)).bind fun _21 =>
      (cut v5 v20 (v5.length : Int)).bind fun l22 =>
      (app? l19 l22).bind fun l23 =>
      some (.inl (d15.1, l23)))
    else
      some (.inl (v3, v5)))
noncomputable def ladinglaw10_NameGuards.j2 [Fuel] (v3 : List GHold) (v5 : List Bs) (v6 : GAct) (v13 : Int) (v14 : Bool) : Option (((List GHold) × List Bs) ⊕ (((List GHold) × Int × List Bs) ⊕ (Bool))) :=
  bif v14 then
    ((name_Drop v3 v6.2.1 v6.2.2.2).bind fun d15 =>
    (bif (leZ 0 v6.2.2.2) then
      some (!((eqZ d15.2 0) == (leZ v6.2.2.2 1073741824)))
    else
      some (!((eqZ d15.2 0) == false))).bind fun x =>
    ladinglaw10_NameGuards.j1 v3 v5 v13 d15 x)
  else
    some (.inl (v3, v5))
noncomputable def ladinglaw10_NameGuards.b2 [Fuel] (v6 : GAct) (v25 : List Bs) (v29 : Int) : Option ((Int) ⊕ ((Unit) ⊕ (((List GHold) × Int × List Bs) ⊕ (Bool)))) :=
  bif (ltZ v29 (v25.length : Int)) then
    ((idx v25 v29).bind fun _30 =>
    (idx v25 v29).bind fun v31 =>
    (name_Confusable v31 v6.2.1).bind fun c32 =>
    bif c32 then
      some (.inr (.inr (.inr false)))
    else
      ((z64 (v29 + 1)).bind fun v33 =>
      some (.inl v33)))
  else
    some (.inr (.inl ()))
noncomputable def ladinglaw10_NameGuards.j3 [Fuel] (v34 : Int) (v38 : Bool) : Option ((Int) ⊕ ((Unit) ⊕ (((List GHold) × Int × List Bs) ⊕ (Bool)))) :=
  bif v38 then
    some (.inr (.inr (.inr false)))
  else
    ((z64 (v34 + 1)).bind fun v39 =>
    some (.inl v39))
noncomputable def ladinglaw10_NameGuards.b3 [Fuel] (v6 : GAct) (v24 : List GHold) (v34 : Int) : Option ((Int) ⊕ ((Unit) ⊕ (((List GHold) × Int × List Bs) ⊕ (Bool)))) :=
  bif (ltZ v34 (v24.length : Int)) then
    (((idx v24 v34).bind fun v35 =>
    (name_Confusable v35.1 v6.2.1).bind fun c36 =>
    bif c36 then
      ((idx v24 v34).bind fun v37 =>
      some (ltZ v6.2.2.1 v37.2))
    else
      some false).bind fun x =>
    ladinglaw10_NameGuards.j3 v34 x)
  else
    some (.inr (.inl ()))
noncomputable def ladinglaw10_NameGuards.j4 [Fuel] (v4 : Int) (v6 : GAct) (v24 : List GHold) (v25 : List Bs) : Option (((List GHold) × Int × List Bs) ⊕ (Bool)) :=
  (name_Right v6.2.1).bind fun r40 =>
  bif (!r40) then
    some (.inr false)
  else
    ((app? v25 ([v6.2.1] : List Bs)).bind fun l41 =>
    (z64 (v4 + 1)).bind fun v42 =>
    some (.inl (v24, v42, l41)))
noncomputable def ladinglaw10_NameGuards.j5 [Fuel] (v4 : Int) (v6 : GAct) (v24 : List GHold) (v25 : List Bs) : Option (((List GHold) × Int × List Bs) ⊕ (Bool)) :=
  (loopF (fun x => ladinglaw10_NameGuards.b3 v6 v24 x) 0).bind fun x => match x with
  | .inl x =>
    ladinglaw10_NameGuards.j4 v4 v6 v24 v25
  | .inr r => some r
noncomputable def ladinglaw10_NameGuards.j6 [Fuel] (v4 : Int) (v6 : GAct) (v24 : List GHold) (v25 : List Bs) (v27 : Bool) : Option (((List GHold) × Int × List Bs) ⊕ (Bool)) :=
  bif v27 then
    ((z64 (v4 + 1)).bind fun v28 =>
    some (.inl (v24, v28, v25)))
  else
    ((loopF (fun x => ladinglaw10_NameGuards.b2 v6 v25 x) 0).bind fun x => match x with
    | .inl x =>
      ladinglaw10_NameGuards.j5 v4 v6 v24 v25
    | .inr r => some r)
noncomputable def ladinglaw10_NameGuards.j7 [Fuel] (v4 : Int) (v6 : GAct) (v24 : List GHold) (v25 : List Bs) : Option (((List GHold) × Int × List Bs) ⊕ (Bool)) :=
  (bif v6.1 then
    some true
  else
    ((name_Free v25 v24 v6.2.1 v6.2.2.1).bind fun f26 =>
    some (!eqZ f26 0))).bind fun x =>
  ladinglaw10_NameGuards.j6 v4 v6 v24 v25 x
noncomputable def ladinglaw10_NameGuards.j8 [Fuel] (v3 : List GHold) (v4 : Int) (v5 : List Bs) (v6 : GAct) (v13 : Int) : Option (((List GHold) × Int × List Bs) ⊕ (Bool)) :=
  ((bif v6.1 then
    some (leZ 0 v13)
  else
    some false).bind fun x =>
  ladinglaw10_NameGuards.j2 v3 v5 v6 v13 x).bind fun x => match x with
  | .inl x =>
    ladinglaw10_NameGuards.j7 v4 v6 x.1 x.2
  | .inr r => some r
noncomputable def ladinglaw10_NameGuards.b4 [Fuel] (l1 : List GAct) (s2 : Bool) (v3 : List GHold) (v4 : Int) (v5 : List Bs) : Option (((List GHold) × Int × List Bs) ⊕ (Bool)) :=
  bif (ltZ v4 (l1.length : Int)) then
    ((idx l1 v4).bind fun v6 =>
    bif (ltZ 30 (v6.2.1.length : Int)) then
      some (.inr s2)
    else
      ((loopF (fun x => ladinglaw10_NameGuards.b1 v5 v6 x.1 x.2) ((-1), 0)).bind fun x =>
      ladinglaw10_NameGuards.j8 v3 v4 v5 v6 x))
  else
    some (.inr s2)
noncomputable def ladinglaw10_NameGuards [Fuel] (l1 : List GAct) : Option Bool :=
  (ladinglaw10_small).bind fun s2 =>
  bif (ltZ 60 (l1.length : Int)) then
    some s2
  else
    (loopF (fun x => ladinglaw10_NameGuards.b4 l1 s2 x.1 x.2.1 x.2.2) ([], 0, []))
end Go.Proofs.YtkhlbajdoaokeaaDoor
