/-
  The functions as plain Lean.
-/
import Derived.Test.YtnbkjaoehkmcpaaD2
import Derived.Test.YtnbkjaoehkmcpaaProg
import Derived.KernelRfl
namespace Go.Proofs.Ytnbkjaoehkmcpaa
open Go.Lad
set_option linter.unusedVariables false
/-- Major, Minor, Patch -/
abbrev GVersion : Type := Int × Int × Int
/-- Lo, Hi -/
abbrev GRange : Type := GVersion × GVersion
/-- Name, Implies -/
abbrev GFeature : Type := Bs × List Bs
/-- Name, Ranges, Kind, When, Features -/
abbrev GNeed : Type := Bs × (List GRange) × Int × GFeature
/-- Name, Version, Source, Needs, Features, Platforms, Licence -/
abbrev GRelease : Type := Bs × GVersion × Bs × (List GNeed) × (List GFeature) × (List Bs) × Bs
/-- Op, N, S, M, Names, Args -/
abbrev GExp : Type := Int × Int × Bs × Bs × (List Bs) × List (Any × Any × Any × Any × Any × Any)
/-- Id, Name, Ranges, Func, Cond -/
abbrev GAdvice : Type := Int × Bs × (List GRange) × Bs × GExp
/-- Kind, Name, Version, Release, Advice, Keys, Need, Until, Print, Time -/
abbrev GFact : Type := Int × Bs × GVersion × GRelease × GAdvice × (List Int) × Int × GVersion
/-- lading/ladinglaw11.release -/
noncomputable def ladinglaw11_release [Fuel] (name1 : Bs) : Option GFact :=
  some (0, ([] : Bs), (0, 0, 0), (name1, (0, 0, 0), ([] : Bs), [], [], [], ([] : Bs)), (0, ([] : Bs), [], ([] : Bs), 0, 0, ([] : Bs), ([] : Bs), [], []), [], 0, 0, 0, 0)
/-- lading/keys.set -/
noncomputable def keys_set.j1 [Fuel] (v4 : Int) (v8 : Bool) : Option ((Int) ⊕ (Bool)) :=
  bif v8 then
    some (.inr false)
  else
    ((z64 (v4 + 1)).bind fun v9 =>
    some (.inl v9))
noncomputable def keys_set.b1 [Fuel] (keys1 : List Int) (v4 : Int) : Option ((Int) ⊕ (Bool)) :=
  bif (ltZ v4 (keys1.length : Int)) then
    ((idx keys1 v4).bind fun v5 =>
    (bif (ltZ v5 0) then
      some true
    else
      (bif (leZ 200 v5) then
        some true
      else
        (bif (ltZ 0 v4) then
          ((z64 (v4 - 1)).bind fun v6 =>
          (idx keys1 v6).bind fun v7 =>
          some (leZ v5 v7))
        else
          some false))).bind fun x =>
    keys_set.j1 v4 x)
  else
    some (.inr true)
noncomputable def keys_set.j2 [Fuel] (keys1 : List Int) (v3 : Bool) : Option Bool :=
  bif v3 then
    some false
  else
    (loopF (fun x => keys_set.b1 keys1 x) 0)
noncomputable def keys_set [Fuel] (keys1 : List Int) (need2 : Int) : Option Bool :=
  (bif (ltZ 12 (keys1.length : Int)) then
    some true
  else
    (bif (ltZ need2 1) then
      some true
    else
      some (ltZ (keys1.length : Int) need2))).bind fun x =>
  keys_set.j2 keys1 x
/-- slices.Index[[]int,int] -/
noncomputable def slices_Index_int_int.b1 [Fuel] (s1 : List Int) (p2 : Int) (v3 : Int) : Option ((Int) ⊕ (Int)) :=
  bif (ltZ v3 (s1.length : Int)) then
    ((idx s1 v3).bind fun v4 =>
    bif (eqZ p2 v4) then
      some (.inr v3)
    else
      ((z64 (v3 + 1)).bind fun v5 =>
      some (.inl v5)))
  else
    some (.inr (-1))
noncomputable def slices_Index_int_int [Fuel] (s1 : List Int) (p2 : Int) : Option Int :=
  loopF (fun x => slices_Index_int_int.b1 s1 p2 x) 0
/-- slices.Contains[[]int,int] -/
noncomputable def slices_Contains_int_int [Fuel] (s1 : List Int) (p2 : Int) : Option Bool :=
  (slices_Index_int_int s1 p2).bind fun i3 =>
  some (leZ 0 i3)
/-- lading/keys.sign -/
noncomputable def keys_sign.j1 [Fuel] (v4 : Int) (got5 : List Int) (v6 : Int) (v9 : Bool) : Option ((Int × List Int) ⊕ (Bool)) :=
  bif v9 then
    ((app? got5 ([v6] : List Int)).bind fun l10 =>
    (z64 (v4 + 1)).bind fun v11 =>
    some (.inl (v11, l10)))
  else
    ((z64 (v4 + 1)).bind fun v12 =>
    some (.inl (v12, got5)))
noncomputable def keys_sign.b1 [Fuel] (signers1 : List Int) (keys2 : List Int) (need3 : Int) (v4 : Int) (got5 : List Int) : Option ((Int × List Int) ⊕ (Bool)) :=
  bif (ltZ v4 (signers1.length : Int)) then
    ((idx signers1 v4).bind fun v6 =>
    ((slices_Contains_int_int keys2 v6).bind fun i7 =>
    bif i7 then
      ((slices_Contains_int_int got5 v6).bind fun i8 =>
      some (!i8))
    else
      some false).bind fun x =>
    keys_sign.j1 v4 got5 v6 x)
  else
    some (.inr (leZ need3 (got5.length : Int)))
noncomputable def keys_sign [Fuel] (signers1 : List Int) (keys2 : List Int) (need3 : Int) : Option Bool :=
  loopF (fun x => keys_sign.b1 signers1 keys2 need3 x.1 x.2) (0, [])
/-- lading/keys.name -/
noncomputable def keys_name [Fuel] (f1 : GFact) : Option Bs :=
  bif (eqZ f1.1 0) then
    some f1.2.2.2.1.1
  else
    (bif (eqZ f1.1 3) then
      some f1.2.2.2.2.1.2.1
    else
      some f1.2.1)
/-- lading/keys.owns -/
noncomputable def keys_owns [Fuel] (f1 : GFact) (s2 : Bs) : Option Bool :=
  bif (eqZ f1.1 5) then
    some (decide (f1.2.1 = s2))
  else
    (bif (eqZ f1.1 4) then
      some (decide (f1.2.1 = s2))
    else
      some false)
/-- lading/keys.Owner$1 -/
noncomputable def keys_Owner_1 [Fuel] (f1 : GFact) (p2 : Bs) : Option Bool :=
  (keys_owns f1 p2).bind fun o3 =>
  some o3
/-- lading/keys.last -/
noncomputable def keys_last.b1 [Fuel] (facts1 : List GFact) (p2 : Bs) (i4 : Int) : Option ((Int) ⊕ (Int)) :=
  bif (leZ 0 i4) then
    ((idx facts1 i4).bind fun v5 =>
    (keys_Owner_1 v5 p2).bind fun v'6 =>
    bif v'6 then
      some (.inr i4)
    else
      ((z64 (i4 - 1)).bind fun v7 =>
      some (.inl v7)))
  else
    some (.inr (-1))
noncomputable def keys_last [Fuel] (facts1 : List GFact) (p2 : Bs) : Option Int :=
  (z64 ((facts1.length : Int) - 1)).bind fun v3 =>
  loopF (fun x => keys_last.b1 facts1 p2 x) v3
/-- slices.Clone[[]int,int] -/
noncomputable def slices_Clone_int_int [Fuel] (s1 : List Int) : Option (List Int) :=
  bothN s1 (
    some []) (
    (app? ([] : List Int) s1).bind fun l2 =>
    some l2)
/-- lading/keys.Owner -/
noncomputable def keys_Owner [Fuel] (facts1 : List GFact) (s2 : Bs) : Option ((List Int) × Int × Bool) :=
  (keys_last facts1 s2).bind fun l3 =>
  bif (ltZ l3 0) then
    some ([], 0, false)
  else
    ((idx facts1 l3).bind fun v4 =>
    (slices_Clone_int_int v4.2.2.2.2.2.1).bind fun i5 =>
    (idx facts1 l3).bind fun v6 =>
    some (i5, v6.2.2.2.2.2.2.1, true))
/-- lading/keys.Delegates$1 -/
noncomputable def keys_Delegates_1 [Fuel] (f1 : GFact) (p2 : Bs) : Option Bool :=
  bif (eqZ f1.1 5) then
    some (decide (f1.2.1 = p2))
  else
    some false
/-- lading/keys.last -/
noncomputable def keys_last_v2.b1 [Fuel] (facts1 : List GFact) (p2 : Bs) (i4 : Int) : Option ((Int) ⊕ (Int)) :=
  bif (leZ 0 i4) then
    ((idx facts1 i4).bind fun v5 =>
    (keys_Delegates_1 v5 p2).bind fun v'6 =>
    bif v'6 then
      some (.inr i4)
    else
      ((z64 (i4 - 1)).bind fun v7 =>
      some (.inl v7)))
  else
    some (.inr (-1))
noncomputable def keys_last_v2 [Fuel] (facts1 : List GFact) (p2 : Bs) : Option Int :=
  (z64 ((facts1.length : Int) - 1)).bind fun v3 =>
  loopF (fun x => keys_last_v2.b1 facts1 p2 x) v3
/-- lading/keys.Delegates$2 -/
noncomputable def keys_Delegates_2 [Fuel] (f1 : GFact) (p2 : Bs) : Option Bool :=
  bif (eqZ f1.1 6) then
    some (decide (f1.2.1 = p2))
  else
    some false
/-- lading/keys.last -/
noncomputable def keys_last_v3.b1 [Fuel] (facts1 : List GFact) (p2 : Bs) (i4 : Int) : Option ((Int) ⊕ (Int)) :=
  bif (leZ 0 i4) then
    ((idx facts1 i4).bind fun v5 =>
    (keys_Delegates_2 v5 p2).bind fun v'6 =>
    bif v'6 then
      some (.inr i4)
    else
      ((z64 (i4 - 1)).bind fun v7 =>
      some (.inl v7)))
  else
    some (.inr (-1))
noncomputable def keys_last_v3 [Fuel] (facts1 : List GFact) (p2 : Bs) : Option Int :=
  (z64 ((facts1.length : Int) - 1)).bind fun v3 =>
  loopF (fun x => keys_last_v3.b1 facts1 p2 x) v3
/-- lading/keys.Delegates -/
noncomputable def keys_Delegates [Fuel] (facts1 : List GFact) (s2 : Bs) : Option ((List Int) × Int × Int) :=
  (keys_last_v2 facts1 s2).bind fun v3 =>
  (z64 (v3 + 1)).bind fun v4 =>
  (cut facts1 v4 (facts1.length : Int)).bind fun l5 =>
  (keys_last_v3 l5 s2).bind fun v6 =>
  bif (ltZ v6 0) then
    some ([], 0, 0)
  else
    ((z64 (v3 + 1)).bind fun v7 =>
    (z64 (v7 + v6)).bind fun v8 =>
    (idx facts1 v8).bind fun v9 =>
    (slices_Clone_int_int v9.2.2.2.2.2.1).bind fun i10 =>
    some (i10, v9.2.2.2.2.2.2.1, v9.2.2.2.2.2.2.2.1))
/-- lading/keys.May -/
noncomputable def keys_May.j1 [Fuel] (v9 : Bool) : Option ((Unit) ⊕ (Int)) :=
  bif v9 then
    some (.inl ())
  else
    some (.inr 1)
noncomputable def keys_May.j2 [Fuel] (p2 : List Int) (p3 : GFact) (p4 : List Int) (v7 : Bool) : Option ((Unit) ⊕ (Int)) :=
  bif v7 then
    ((keys_sign p4 p2 1).bind fun s8 =>
    bif (!s8) then
      some (.inr 22)
    else
      some (.inr 0))
  else
    ((bif (eqZ p3.1 0) then
      some (eqZ p3.1 0)
    else
      (bif (eqZ p3.1 1) then
        some (eqZ p3.1 1)
      else
        some (eqZ p3.1 2))).bind fun x =>
    keys_May.j1 x)
noncomputable def keys_May.j3 [Fuel] (p2 : List Int) (p3 : GFact) (p4 : List Int) (v5 : Bool) : Option ((Unit) ⊕ (Int)) :=
  bif v5 then
    ((keys_set p3.2.2.2.2.2.1 p3.2.2.2.2.2.2.1).bind fun s6 =>
    bif (!s6) then
      some (.inr 1)
    else
      some (.inl ()))
  else
    ((bif (eqZ p3.1 3) then
      some (eqZ p3.1 3)
    else
      some (eqZ p3.1 7)).bind fun x =>
    keys_May.j2 p2 p3 p4 x)
noncomputable def keys_May.j4 [Fuel] (p3 : GFact) (o11 : (List Int) × Int × Bool) (v12 : Bool) : Option (((List Int) × Int) ⊕ (Int)) :=
  bif v12 then
    some (.inr 24)
  else
    (bif (!o11.2.2) then
      some (.inl (p3.2.2.2.2.2.1, p3.2.2.2.2.2.2.1))
    else
      some (.inl (o11.1, o11.2.1)))
noncomputable def keys_May.j5 [Fuel] (v19 : Bool) : Option Int :=
  bif v19 then
    some 0
  else
    some 23
noncomputable def keys_May.j6 [Fuel] (facts1 : List GFact) (p3 : GFact) (p4 : List Int) (v13 : List Int) (v14 : Int) : Option Int :=
  (keys_sign p4 v13 v14).bind fun s15 =>
  bif s15 then
    some 0
  else
    (bif (eqZ p3.1 0) then
      ((keys_name p3).bind fun n16 =>
      (keys_Delegates facts1 n16).bind fun d17 =>
      (bif (leZ 1 d17.2.1) then
        (bif (leZ (facts1.length : Int) d17.2.2) then
          ((keys_sign p4 d17.1 d17.2.1).bind fun s18 =>
          some s18)
        else
          some false)
      else
        some false).bind fun x =>
      keys_May.j5 x)
    else
      some 23)
noncomputable def keys_May.j7 [Fuel] (facts1 : List GFact) (p3 : GFact) (p4 : List Int) : Option Int :=
  (keys_name p3).bind fun n10 =>
  (keys_Owner facts1 n10).bind fun o11 =>
  ((bif (!o11.2.2) then
    some (!eqZ p3.1 5)
  else
    some false).bind fun x =>
  keys_May.j4 p3 o11 x).bind fun x => match x with
  | .inl x =>
    keys_May.j6 facts1 p3 p4 x.1 x.2
  | .inr r => some r
noncomputable def keys_May [Fuel] (facts1 : List GFact) (p2 : List Int) (p3 : GFact) (p4 : List Int) : Option Int :=
  ((bif (eqZ p3.1 4) then
    some (eqZ p3.1 4)
  else
    (bif (eqZ p3.1 5) then
      some (eqZ p3.1 5)
    else
      some (eqZ p3.1 6))).bind fun x =>
  keys_May.j3 p2 p3 p4 x).bind fun x => match x with
  | .inl x =>
    keys_May.j7 facts1 p3 p4
  | .inr r => some r
/-- lading/keys.Admit -/
noncomputable def keys_Admit.j1 [Fuel] (facts1 : List GFact) (registry2 : List Int) (v4 : Int) (v5 : GFact) (by7 : List Int) : Option ((Int) ⊕ (Int × Int)) :=
  (cut facts1 0 v4).bind fun l8 =>
  (keys_May l8 registry2 v5 by7).bind fun m9 =>
  bif (!eqZ m9 0) then
    some (.inr (v4, m9))
  else
    ((z64 (v4 + 1)).bind fun v10 =>
    some (.inl v10))
noncomputable def keys_Admit.b1 [Fuel] (facts1 : List GFact) (registry2 : List Int) (signers3 : List (List Int)) (v4 : Int) : Option ((Int) ⊕ (Int × Int)) :=
  bif (ltZ v4 (facts1.length : Int)) then
    ((idx facts1 v4).bind fun v5 =>
    (bif (ltZ v4 (signers3.length : Int)) then
      ((idx signers3 v4).bind fun v6 =>
      some v6)
    else
      some []).bind fun x =>
    keys_Admit.j1 facts1 registry2 v4 v5 x)
  else
    some (.inr ((facts1.length : Int), 0))
noncomputable def keys_Admit [Fuel] (facts1 : List GFact) (registry2 : List Int) (signers3 : List (List Int)) : Option (Int × Int) :=
  loopF (fun x => keys_Admit.b1 facts1 registry2 signers3 x) 0
/-- lading/ladingref11.Ints -/
noncomputable def ladingref11_Ints.b1 [Fuel] (a1 : List Int) (b2 : List Int) (i3 : Int) : Option ((Int) ⊕ (Bool)) :=
  bif (ltZ i3 (a1.length : Int)) then
    ((idx a1 i3).bind fun v4 =>
    (idx b2 i3).bind fun v5 =>
    bif (!eqZ v4 v5) then
      some (.inr false)
    else
      ((z64 (i3 + 1)).bind fun v6 =>
      some (.inl v6)))
  else
    some (.inr true)
noncomputable def ladingref11_Ints [Fuel] (a1 : List Int) (b2 : List Int) : Option Bool :=
  bif (!eqZ (a1.length : Int) (b2.length : Int)) then
    some false
  else
    (loopF (fun x => ladingref11_Ints.b1 a1 b2 x) 0)
/-- lading/keys.Chain -/
noncomputable def keys_Chain.b1 [Fuel] (facts1 : List GFact) (s2 : Bs) (v3 : Int) (out4 : List Int) : Option ((Int × List Int) ⊕ (List Int)) :=
  bif (ltZ v3 (facts1.length : Int)) then
    ((idx facts1 v3).bind fun v5 =>
    (keys_owns v5 s2).bind fun o6 =>
    bif o6 then
      ((app? out4 ([v3] : List Int)).bind fun l7 =>
      (z64 (v3 + 1)).bind fun v8 =>
      some (.inl (v8, l7)))
    else
      ((z64 (v3 + 1)).bind fun v9 =>
      some (.inl (v9, out4))))
  else
    some (.inr out4)
noncomputable def keys_Chain [Fuel] (facts1 : List GFact) (s2 : Bs) : Option (List Int) :=
  loopF (fun x => keys_Chain.b1 facts1 s2 x.1 x.2) (0, [])
/-- lading/ladinglaw11.small -/
noncomputable def ladinglaw11_small.j1 [Fuel] (v7 : Bool) (v12 : Bool) (m13 : Int) (a16 : Int × Int) (v19 : Bool) : Option Bool :=
  bif v7 then
    (bif v12 then
      (bif (eqZ m13 0) then
        (bif v19 then
          (bif (eqZ a16.1 1) then
            (bif (eqZ a16.2 23) then
              ((keys_Chain ([(5, ([103, 101, 111] : Bs), (0, 0, 0), (([] : Bs), (0, 0, 0), ([] : Bs), [], [], [], ([] : Bs)), (0, ([] : Bs), [], ([] : Bs), 0, 0, ([] : Bs), ([] : Bs), [], []), ([1, 2, 3] : List Int), 2, 0, 0, 0), (6, ([103, 101, 111] : Bs), (0, 0, 0), (([] : Bs), (0, 0, 0), ([] : Bs), [], [], [], ([] : Bs)), (0, ([] : Bs), [], ([] : Bs), 0, 0, ([] : Bs), ([] : Bs), [], []), ([7] : List Int), 1, 5, 0, 0)] : List GFact) ([103, 101, 111] : Bs)).bind fun c20 =>
              (ladingref11_Ints c20 ([0] : List Int)).bind fun i21 =>
              some i21)
            else
              some false)
          else
            some false)
        else
          some false)
      else
        some false)
    else
      some false)
  else
    some false
noncomputable def ladinglaw11_small.j2 [Fuel] (v7 : Bool) (v12 : Bool) : Option Bool :=
  (keys_May ([(5, ([103, 101, 111] : Bs), (0, 0, 0), (([] : Bs), (0, 0, 0), ([] : Bs), [], [], [], ([] : Bs)), (0, ([] : Bs), [], ([] : Bs), 0, 0, ([] : Bs), ([] : Bs), [], []), ([1, 2, 3] : List Int), 2, 0, 0, 0), (6, ([103, 101, 111] : Bs), (0, 0, 0), (([] : Bs), (0, 0, 0), ([] : Bs), [], [], [], ([] : Bs)), (0, ([] : Bs), [], ([] : Bs), 0, 0, ([] : Bs), ([] : Bs), [], []), ([7] : List Int), 1, 5, 0, 0)] : List GFact) [] (5, ([98, 97, 115, 101] : Bs), (0, 0, 0), (([] : Bs), (0, 0, 0), ([] : Bs), [], [], [], ([] : Bs)), (0, ([] : Bs), [], ([] : Bs), 0, 0, ([] : Bs), ([] : Bs), [], []), ([4, 5] : List Int), 1, 0, 0, 0) ([5] : List Int)).bind fun m13 =>
  (keys_Owner ([(5, ([103, 101, 111] : Bs), (0, 0, 0), (([] : Bs), (0, 0, 0), ([] : Bs), [], [], [], ([] : Bs)), (0, ([] : Bs), [], ([] : Bs), 0, 0, ([] : Bs), ([] : Bs), [], []), ([1, 2, 3] : List Int), 2, 0, 0, 0), (6, ([103, 101, 111] : Bs), (0, 0, 0), (([] : Bs), (0, 0, 0), ([] : Bs), [], [], [], ([] : Bs)), (0, ([] : Bs), [], ([] : Bs), 0, 0, ([] : Bs), ([] : Bs), [], []), ([7] : List Int), 1, 5, 0, 0)] : List GFact) ([103, 101, 111] : Bs)).bind fun o14 =>
  (keys_Delegates ([(5, ([103, 101, 111] : Bs), (0, 0, 0), (([] : Bs), (0, 0, 0), ([] : Bs), [], [], [], ([] : Bs)), (0, ([] : Bs), [], ([] : Bs), 0, 0, ([] : Bs), ([] : Bs), [], []), ([1, 2, 3] : List Int), 2, 0, 0, 0), (6, ([103, 101, 111] : Bs), (0, 0, 0), (([] : Bs), (0, 0, 0), ([] : Bs), [], [], [], ([] : Bs)), (0, ([] : Bs), [], ([] : Bs), 0, 0, ([] : Bs), ([] : Bs), [], []), ([7] : List Int), 1, 5, 0, 0)] : List GFact) ([103, 101, 111] : Bs)).bind fun d15 =>
  (keys_Admit ([(5, ([103, 101, 111] : Bs), (0, 0, 0), (([] : Bs), (0, 0, 0), ([] : Bs), [], [], [], ([] : Bs)), (0, ([] : Bs), [], ([] : Bs), 0, 0, ([] : Bs), ([] : Bs), [], []), ([1, 2, 3] : List Int), 2, 0, 0, 0), (6, ([103, 101, 111] : Bs), (0, 0, 0), (([] : Bs), (0, 0, 0), ([] : Bs), [], [], [], ([] : Bs)), (0, ([] : Bs), [], ([] : Bs), 0, 0, ([] : Bs), ([] : Bs), [], []), ([7] : List Int), 1, 5, 0, 0)] : List GFact) [] ([([1, 3] : List Int), ([2] : List Int)] : List (List Int))).bind fun a16 =>
  ((ladingref11_Ints o14.1 ([1, 2, 3] : List Int)).bind fun i17 =>
  bif i17 then
    (bif (eqZ o14.2.1 2) then
      (bif o14.2.2 then
        ((ladingref11_Ints d15.1 ([7] : List Int)).bind fun i18 =>
        bif i18 then
          (bif (eqZ d15.2.1 1) then
            some (eqZ d15.2.2 5)
          else
            some false)
        else
          some false)
      else
        some false)
    else
      some false)
  else
    some false).bind fun x =>
  ladinglaw11_small.j1 v7 v12 m13 a16 x
noncomputable def ladinglaw11_small.j3 [Fuel] (v7 : Bool) : Option Bool :=
  ((keys_May ([(5, ([103, 101, 111] : Bs), (0, 0, 0), (([] : Bs), (0, 0, 0), ([] : Bs), [], [], [], ([] : Bs)), (0, ([] : Bs), [], ([] : Bs), 0, 0, ([] : Bs), ([] : Bs), [], []), ([1, 2, 3] : List Int), 2, 0, 0, 0), (6, ([103, 101, 111] : Bs), (0, 0, 0), (([] : Bs), (0, 0, 0), ([] : Bs), [], [], [], ([] : Bs)), (0, ([] : Bs), [], ([] : Bs), 0, 0, ([] : Bs), ([] : Bs), [], []), ([7] : List Int), 1, 5, 0, 0)] : List GFact) [] (1, ([103, 101, 111] : Bs), (0, 0, 0), (([] : Bs), (0, 0, 0), ([] : Bs), [], [], [], ([] : Bs)), (0, ([] : Bs), [], ([] : Bs), 0, 0, ([] : Bs), ([] : Bs), [], []), [], 0, 0, 0, 0) ([7] : List Int)).bind fun m8 =>
  bif (eqZ m8 23) then
    ((keys_May ([(5, ([103, 101, 111] : Bs), (0, 0, 0), (([] : Bs), (0, 0, 0), ([] : Bs), [], [], [], ([] : Bs)), (0, ([] : Bs), [], ([] : Bs), 0, 0, ([] : Bs), ([] : Bs), [], []), ([1, 2, 3] : List Int), 2, 0, 0, 0), (6, ([103, 101, 111] : Bs), (0, 0, 0), (([] : Bs), (0, 0, 0), ([] : Bs), [], [], [], ([] : Bs)), (0, ([] : Bs), [], ([] : Bs), 0, 0, ([] : Bs), ([] : Bs), [], []), ([7] : List Int), 1, 5, 0, 0)] : List GFact) [] (1, ([103, 101, 111] : Bs), (0, 0, 0), (([] : Bs), (0, 0, 0), ([] : Bs), [], [], [], ([] : Bs)), (0, ([] : Bs), [], ([] : Bs), 0, 0, ([] : Bs), ([] : Bs), [], []), [], 0, 0, 0, 0) ([3, 9, 1] : List Int)).bind fun m9 =>
    bif (eqZ m9 0) then
      ((ladinglaw11_release ([98, 97, 115, 101] : Bs)).bind fun r10 =>
      (keys_May ([(5, ([103, 101, 111] : Bs), (0, 0, 0), (([] : Bs), (0, 0, 0), ([] : Bs), [], [], [], ([] : Bs)), (0, ([] : Bs), [], ([] : Bs), 0, 0, ([] : Bs), ([] : Bs), [], []), ([1, 2, 3] : List Int), 2, 0, 0, 0), (6, ([103, 101, 111] : Bs), (0, 0, 0), (([] : Bs), (0, 0, 0), ([] : Bs), [], [], [], ([] : Bs)), (0, ([] : Bs), [], ([] : Bs), 0, 0, ([] : Bs), ([] : Bs), [], []), ([7] : List Int), 1, 5, 0, 0)] : List GFact) [] r10 ([1] : List Int)).bind fun m11 =>
      some (eqZ m11 24))
    else
      some false)
  else
    some false).bind fun x =>
  ladinglaw11_small.j2 v7 x
noncomputable def ladinglaw11_small [Fuel] : Option Bool :=
  ((ladinglaw11_release ([103, 101, 111] : Bs)).bind fun r1 =>
  (keys_May ([(5, ([103, 101, 111] : Bs), (0, 0, 0), (([] : Bs), (0, 0, 0), ([] : Bs), [], [], [], ([] : Bs)), (0, ([] : Bs), [], ([] : Bs), 0, 0, ([] : Bs), ([] : Bs), [], []), ([1, 2, 3] : List Int), 2, 0, 0, 0), (6, ([103, 101, 111] : Bs), (0, 0, 0), (([] : Bs), (0, 0, 0), ([] : Bs), [], [], [], ([] : Bs)), (0, ([] : Bs), [], ([] : Bs), 0, 0, ([] : Bs), ([] : Bs), [], []), ([7] : List Int), 1, 5, 0, 0)] : List GFact) [] r1 ([1, 2] : List Int)).bind fun m2 =>
  bif (eqZ m2 0) then
    ((ladinglaw11_release ([103, 101, 111] : Bs)).bind fun r3 =>
    (keys_May ([(5, ([103, 101, 111] : Bs), (0, 0, 0), (([] : Bs), (0, 0, 0), ([] : Bs), [], [], [], ([] : Bs)), (0, ([] : Bs), [], ([] : Bs), 0, 0, ([] : Bs), ([] : Bs), [], []), ([1, 2, 3] : List Int), 2, 0, 0, 0), (6, ([103, 101, 111] : Bs), (0, 0, 0), (([] : Bs), (0, 0, 0), ([] : Bs), [], [], [], ([] : Bs)), (0, ([] : Bs), [], ([] : Bs), 0, 0, ([] : Bs), ([] : Bs), [], []), ([7] : List Int), 1, 5, 0, 0)] : List GFact) [] r3 ([1, 1] : List Int)).bind fun m4 =>
    bif (eqZ m4 23) then
      ((ladinglaw11_release ([103, 101, 111] : Bs)).bind fun r5 =>
      (keys_May ([(5, ([103, 101, 111] : Bs), (0, 0, 0), (([] : Bs), (0, 0, 0), ([] : Bs), [], [], [], ([] : Bs)), (0, ([] : Bs), [], ([] : Bs), 0, 0, ([] : Bs), ([] : Bs), [], []), ([1, 2, 3] : List Int), 2, 0, 0, 0), (6, ([103, 101, 111] : Bs), (0, 0, 0), (([] : Bs), (0, 0, 0), ([] : Bs), [], [], [], ([] : Bs)), (0, ([] : Bs), [], ([] : Bs), 0, 0, ([] : Bs), ([] : Bs), [], []), ([7] : List Int), 1, 5, 0, 0)] : List GFact) [] r5 ([7] : List Int)).bind fun m6 =>
      some (eqZ m6 0))
    else
      some false)
  else
    some false).bind fun x =>
  ladinglaw11_small.j3 x
/-- lading/ladingref11.Few -/
noncomputable def ladingref11_Few.j1 [Fuel] (facts1 : List GFact) (i4 : Int) (v5 : Bool) : Option ((Int) ⊕ ((Unit) ⊕ (Bool))) :=
  bif v5 then
    ((idx facts1 i4).bind fun v6 =>
    bif (ltZ 20 (v6.2.2.2.2.2.1.length : Int)) then
      some (.inr (.inr false))
    else
      ((z64 (i4 + 1)).bind fun v7 =>
      some (.inl v7)))
  else
    some (.inr (.inl ()))
noncomputable def ladingref11_Few.b1 [Fuel] (facts1 : List GFact) (n3 : Int) (i4 : Int) : Option ((Int) ⊕ ((Unit) ⊕ (Bool))) :=
  (bif (ltZ i4 (facts1.length : Int)) then
    some (leZ i4 n3)
  else
    some false).bind fun x =>
  ladingref11_Few.j1 facts1 i4 x
noncomputable def ladingref11_Few.j2 [Fuel] (facts1 : List GFact) (signers2 : List (List Int)) (n3 : Int) (i8 : Int) (v9 : Bool) : Option ((Int) ⊕ (Bool)) :=
  bif v9 then
    ((idx signers2 i8).bind fun v10 =>
    bif (ltZ 20 (v10.length : Int)) then
      some (.inr false)
    else
      ((z64 (i8 + 1)).bind fun v11 =>
      some (.inl v11)))
  else
    (Option.map Sum.inr (bif (leZ (facts1.length : Int) n3) then
      some (leZ (signers2.length : Int) n3)
    else
      some false))
noncomputable def ladingref11_Few.b2 [Fuel] (facts1 : List GFact) (signers2 : List (List Int)) (n3 : Int) (i8 : Int) : Option ((Int) ⊕ (Bool)) :=
  (bif (ltZ i8 (signers2.length : Int)) then
    some (leZ i8 n3)
  else
    some false).bind fun x =>
  ladingref11_Few.j2 facts1 signers2 n3 i8 x
noncomputable def ladingref11_Few.j3 [Fuel] (facts1 : List GFact) (signers2 : List (List Int)) (n3 : Int) : Option Bool :=
  loopF (fun x => ladingref11_Few.b2 facts1 signers2 n3 x) 0
noncomputable def ladingref11_Few [Fuel] (facts1 : List GFact) (signers2 : List (List Int)) (n3 : Int) : Option Bool :=
  (loopF (fun x => ladingref11_Few.b1 facts1 n3 x) 0).bind fun x => match x with
  | .inl x =>
    ladingref11_Few.j3 facts1 signers2 n3
  | .inr r => some r
/-- lading/ladingref11.Has -/
noncomputable def ladingref11_Has.b1 [Fuel] (l1 : List Int) (n2 : Int) (i3 : Int) : Option ((Int) ⊕ (Bool)) :=
  bif (ltZ i3 (l1.length : Int)) then
    ((idx l1 i3).bind fun v4 =>
    bif (eqZ v4 n2) then
      some (.inr true)
    else
      ((z64 (i3 + 1)).bind fun v5 =>
      some (.inl v5)))
  else
    some (.inr false)
noncomputable def ladingref11_Has [Fuel] (l1 : List Int) (n2 : Int) : Option Bool :=
  loopF (fun x => ladingref11_Has.b1 l1 n2 x) 0
/-- lading/ladingref11.Count -/
noncomputable def ladingref11_Count.j1 [Fuel] (n3 : Int) (i4 : Int) (v10 : Bool) : Option ((Int × Int) ⊕ (Int)) :=
  bif v10 then
    ((z64 (n3 + 1)).bind fun v11 =>
    (z64 (i4 + 1)).bind fun v12 =>
    some (.inl (v11, v12)))
  else
    ((z64 (i4 + 1)).bind fun v13 =>
    some (.inl (n3, v13)))
noncomputable def ladingref11_Count.b1 [Fuel] (signers1 : List Int) (keys2 : List Int) (n3 : Int) (i4 : Int) : Option ((Int × Int) ⊕ (Int)) :=
  bif (ltZ i4 (signers1.length : Int)) then
    (((idx signers1 i4).bind fun v5 =>
    (ladingref11_Has keys2 v5).bind fun h6 =>
    bif h6 then
      ((cut signers1 0 i4).bind fun l7 =>
      (idx signers1 i4).bind fun v8 =>
      (ladingref11_Has l7 v8).bind fun h9 =>
      some (!h9))
    else
      some false).bind fun x =>
    ladingref11_Count.j1 n3 i4 x)
  else
    some (.inr n3)
noncomputable def ladingref11_Count [Fuel] (signers1 : List Int) (keys2 : List Int) : Option Int :=
  loopF (fun x => ladingref11_Count.b1 signers1 keys2 x.1 x.2) (0, 0)
/-- lading/ladingref11.Name -/
noncomputable def ladingref11_Name [Fuel] (f1 : GFact) : Option Bs :=
  bif (eqZ f1.1 0) then
    some f1.2.2.2.1.1
  else
    (bif (eqZ f1.1 3) then
      some f1.2.2.2.2.1.2.1
    else
      some f1.2.1)
/-- lading/ladinglaw11.only -/
noncomputable def ladinglaw11_only.b1 [Fuel] (signers1 : List Int) (l2 : List Int) (i3 : Int) : Option ((Int) ⊕ (Bool)) :=
  bif (ltZ i3 (signers1.length : Int)) then
    ((idx signers1 i3).bind fun v4 =>
    (ladingref11_Has l2 v4).bind fun h5 =>
    bif (!h5) then
      some (.inr false)
    else
      ((z64 (i3 + 1)).bind fun v6 =>
      some (.inl v6)))
  else
    some (.inr true)
noncomputable def ladinglaw11_only [Fuel] (signers1 : List Int) (l2 : List Int) : Option Bool :=
  loopF (fun x => ladinglaw11_only.b1 signers1 l2 x) 0
/-- lading/ladinglaw11.KeysHolds -/
noncomputable def ladinglaw11_KeysHolds.j1 [Fuel] (v22 : Int) (v33 : Bool) : Option ((Int) ⊕ (Bool)) :=
  bif v33 then
    some (.inr false)
  else
    ((z64 (v22 + 1)).bind fun v34 =>
    some (.inl v34))
noncomputable def ladinglaw11_KeysHolds.j2 [Fuel] (l1 : List GFact) (p3 : List (List Int)) (p4 : Bs) (p6 : List Int) (s7 : Bool) (o16 : (List Int) × Int × Bool) (v22 : Int) (v25 : Bool) : Option ((Int) ⊕ (Bool)) :=
  bif v25 then
    (bif s7 then
      (bif (ltZ v22 (p3.length : Int)) then
        ((z64 ((p3.length : Int) - 1)).bind fun v26 =>
        (idx p3 (min v22 (max v26 0))).bind fun v27 =>
        (ladinglaw11_only v27 p6).bind fun o28 =>
        some (.inr (!o28)))
      else
        some (.inr false))
    else
      some (.inr false))
  else
    ((z64 (v22 + 1)).bind fun v29 =>
    (cut l1 0 v29).bind fun l30 =>
    (keys_Owner l30 p4).bind fun o31 =>
    (bif (!o31.2.2) then
      some true
    else
      (bif (!eqZ o31.2.1 o16.2.1) then
        some true
      else
        ((ladingref11_Ints o31.1 o16.1).bind fun i32 =>
        some (!i32)))).bind fun x =>
    ladinglaw11_KeysHolds.j1 v22 x)
noncomputable def ladinglaw11_KeysHolds.b1 [Fuel] (l1 : List GFact) (p3 : List (List Int)) (p4 : Bs) (p6 : List Int) (s7 : Bool) (a11 : Int × Int) (o16 : (List Int) × Int × Bool) (v22 : Int) : Option ((Int) ⊕ (Bool)) :=
  bif (ltZ v22 a11.1) then
    ((idx l1 v22).bind fun v23 =>
    ((ladingref11_Name v23).bind fun n24 =>
    bif (decide (n24 = p4)) then
      (bif (!eqZ v23.1 3) then
        some (!eqZ v23.1 7)
      else
        some false)
    else
      some false).bind fun x =>
    ladinglaw11_KeysHolds.j2 l1 p3 p4 p6 s7 o16 v22 x)
  else
    some (.inr s7)
noncomputable def ladinglaw11_KeysHolds.j3 [Fuel] (l1 : List GFact) (p3 : List (List Int)) (p4 : Bs) (p6 : List Int) (s7 : Bool) (a11 : Int × Int) (v14 : Int) (o16 : (List Int) × Int × Bool) (v21 : Bool) : Option Bool :=
  bif v21 then
    some s7
  else
    (loopF (fun x => ladinglaw11_KeysHolds.b1 l1 p3 p4 p6 s7 a11 o16 x) v14)
noncomputable def ladinglaw11_KeysHolds.j4 [Fuel] (l1 : List GFact) (p3 : List (List Int)) (p4 : Bs) (p5 : Int) (p6 : List Int) (s7 : Bool) (a11 : Int × Int) (v12 : Bool) : Option Bool :=
  bif v12 then
    some false
  else
    ((z64 (a11.1 + 1)).bind fun v13 =>
    (remZ .i64 p5 v13).bind fun v14 =>
    (cut l1 0 v14).bind fun l15 =>
    (keys_Owner l15 p4).bind fun o16 =>
    (cut l1 0 v14).bind fun l17 =>
    (keys_Delegates l17 p4).bind fun d18 =>
    (bif (!o16.2.2) then
      some true
    else
      ((ladingref11_Count p6 o16.1).bind fun c19 =>
      bif (leZ o16.2.1 c19) then
        some true
      else
        (bif (leZ 1 d18.2.1) then
          ((ladingref11_Count p6 d18.1).bind fun c20 =>
          some (leZ d18.2.1 c20))
        else
          some false))).bind fun x =>
    ladinglaw11_KeysHolds.j3 l1 p3 p4 p6 s7 a11 v14 o16 x)
noncomputable def ladinglaw11_KeysHolds.j5 [Fuel] (l1 : List GFact) (p2 : List Int) (p3 : List (List Int)) (p4 : Bs) (p5 : Int) (p6 : List Int) (s7 : Bool) (v10 : Bool) : Option Bool :=
  bif v10 then
    some s7
  else
    ((keys_Admit l1 p2 p3).bind fun a11 =>
    (bif (ltZ a11.1 0) then
      some true
    else
      some (ltZ (l1.length : Int) a11.1)).bind fun x =>
    ladinglaw11_KeysHolds.j4 l1 p3 p4 p5 p6 s7 a11 x)
noncomputable def ladinglaw11_KeysHolds [Fuel] (l1 : List GFact) (p2 : List Int) (p3 : List (List Int)) (p4 : Bs) (p5 : Int) (p6 : List Int) : Option Bool :=
  (ladinglaw11_small).bind fun s7 =>
  ((app? ([p2, p6] : List (List Int)) p3).bind fun l8 =>
  (ladingref11_Few l1 l8 17).bind fun f9 =>
  bif (!f9) then
    some true
  else
    some (ltZ 15 (l1.length : Int))).bind fun x =>
  ladinglaw11_KeysHolds.j5 l1 p2 p3 p4 p5 p6 s7 x
/-- slices.Equal[[]int,int] -/
noncomputable def slices_Equal_int_int.b1 [Fuel] (s1'1 : List Int) (s2'2 : List Int) (v3 : Int) : Option ((Int) ⊕ (Bool)) :=
  bif (ltZ v3 (s1'1.length : Int)) then
    ((idx s1'1 v3).bind fun v4 =>
    (idx s2'2 v3).bind fun v5 =>
    bif (!eqZ v4 v5) then
      some (.inr false)
    else
      ((z64 (v3 + 1)).bind fun v6 =>
      some (.inl v6)))
  else
    some (.inr true)
noncomputable def slices_Equal_int_int [Fuel] (s1'1 : List Int) (s2'2 : List Int) : Option Bool :=
  bif (!eqZ (s1'1.length : Int) (s2'2.length : Int)) then
    some false
  else
    (loopF (fun x => slices_Equal_int_int.b1 s1'1 s2'2 x) 0)
/-- lading/keys.Walk -/
noncomputable def keys_Walk [Fuel] (facts1 : List GFact) (s2 : Bs) (chain3 : List Int) : Option ((List Int) × Int × Int) :=
  (keys_Chain facts1 s2).bind fun c4 =>
  (slices_Equal_int_int chain3 c4).bind fun i5 =>
  bif (!i5) then
    some ([], 0, 19)
  else
    (bif (eqZ (chain3.length : Int) 0) then
      some ([], 0, 24)
    else
      ((z64 ((chain3.length : Int) - 1)).bind fun v6 =>
      (idx chain3 v6).bind fun v7 =>
      (idx facts1 v7).bind fun v8 =>
      (slices_Clone_int_int v8.2.2.2.2.2.1).bind fun i9 =>
      some (i9, v8.2.2.2.2.2.2.1, 0)))
/-- slices.Clone[[]int,int] -/
noncomputable def slices_Clone_int_int_v2 [Fuel] (s1 : List Int) : Option (List Int) :=
  bothN s1 (
    some []) (
    (app? ([] : List Int) s1).bind fun l2 =>
    some l2)
/-- lading/keys.Owner -/
noncomputable def keys_Owner_v2 [Fuel] (facts1 : List GFact) (s2 : Bs) : Option (Int × Bool × List Int) :=
  (keys_last facts1 s2).bind fun l3 =>
  bif (ltZ l3 0) then
    some (0, false, [])
  else
    ((idx facts1 l3).bind fun v4 =>
    (slices_Clone_int_int_v2 v4.2.2.2.2.2.1).bind fun v5 =>
    (idx facts1 l3).bind fun v6 =>
    some (v6.2.2.2.2.2.2.1, true, v5))
/-- lading/keys.Walk -/
noncomputable def keys_Walk_v2 [Fuel] (facts1 : List GFact) (s2 : Bs) (chain3 : List Int) : Option (Int × Int × List Int) :=
  (keys_Chain facts1 s2).bind fun c4 =>
  (slices_Equal_int_int chain3 c4).bind fun i5 =>
  bif (!i5) then
    some (0, 19, [])
  else
    (bif (eqZ (chain3.length : Int) 0) then
      some (0, 24, [])
    else
      ((z64 ((chain3.length : Int) - 1)).bind fun v6 =>
      (idx chain3 v6).bind fun v7 =>
      (idx facts1 v7).bind fun v8 =>
      (slices_Clone_int_int_v2 v8.2.2.2.2.2.1).bind fun v9 =>
      some (v8.2.2.2.2.2.2.1, 0, v9)))
/-- lading/ladinglaw11.KeysChain -/
noncomputable def ladinglaw11_KeysChain.j1 [Fuel] (l1 : List GFact) (c6 : List Int) (v9 : Int) (v10 : List GFact) (v13 : Bool) : Option ((Int × List GFact) ⊕ ((List GFact) ⊕ (Bool))) :=
  bif v13 then
    some (.inr (.inr false))
  else
    ((idx c6 v9).bind fun v14 =>
    (idx l1 v14).bind fun v15 =>
    (app? v10 ([v15] : List GFact)).bind fun l16 =>
    (z64 (v9 + 1)).bind fun v17 =>
    some (.inl (v17, l16)))
noncomputable def ladinglaw11_KeysChain.b1 [Fuel] (l1 : List GFact) (c6 : List Int) (v9 : Int) (v10 : List GFact) : Option ((Int × List GFact) ⊕ ((List GFact) ⊕ (Bool))) :=
  bif (ltZ v9 (c6.length : Int)) then
    (((idx c6 v9).bind fun v11 =>
    bif (ltZ v11 0) then
      some true
    else
      ((idx c6 v9).bind fun v12 =>
      some (leZ (l1.length : Int) v12))).bind fun x =>
    ladinglaw11_KeysChain.j1 l1 c6 v9 v10 x)
  else
    some (.inr (.inl v10))
noncomputable def ladinglaw11_KeysChain.j2 [Fuel] (l1 : List GFact) (p2 : Bs) (p3 : Int) (s4 : Bool) (c6 : List Int) (v26 : Int × Int × List Int) (v27 : Bool) : Option Bool :=
  bif v27 then
    (bif s4 then
      some (eqZ v26.2.1 19)
    else
      some false)
  else
    ((remZ .i64 p3 (c6.length : Int)).bind fun v28 =>
    (cut c6 0 v28).bind fun l29 =>
    (app? ([] : List Int) l29).bind fun l30 =>
    (z64 (v28 + 1)).bind fun v31 =>
    (cut c6 v31 (c6.length : Int)).bind fun l32 =>
    (app? l30 l32).bind fun l33 =>
    (keys_Walk_v2 l1 p2 l33).bind fun v34 =>
    bif s4 then
      some (eqZ v34.2.1 19)
    else
      some false)
noncomputable def ladinglaw11_KeysChain.j3 [Fuel] (l1 : List GFact) (p2 : Bs) (p3 : Int) (s4 : Bool) (c6 : List Int) (o7 : (List Int) × Int × Bool) (v23 : Bool) : Option Bool :=
  bif v23 then
    some false
  else
    ((app? ([] : List Int) c6).bind fun l24 =>
    (app? l24 ([(l1.length : Int)] : List Int)).bind fun l25 =>
    (keys_Walk_v2 l1 p2 l25).bind fun v26 =>
    (bif (!eqZ v26.2.1 19) then
      some true
    else
      some (!o7.2.2)).bind fun x =>
    ladinglaw11_KeysChain.j2 l1 p2 p3 s4 c6 v26 x)
noncomputable def ladinglaw11_KeysChain.j4 [Fuel] (l1 : List GFact) (p2 : Bs) (p3 : Int) (s4 : Bool) (c6 : List Int) (o7 : (List Int) × Int × Bool) (w8 : (List Int) × Int × Int) (v18 : List GFact) : Option Bool :=
  (keys_Owner_v2 v18 p2).bind fun v19 =>
  (bif (!(o7.2.2 == v19.2.1)) then
    some true
  else
    (bif (!eqZ o7.2.1 v19.1) then
      some true
    else
      ((ladingref11_Ints o7.1 v19.2.2).bind fun i20 =>
      bif (!i20) then
        some true
      else
        (bif (!(o7.2.2 == (ltZ 0 (c6.length : Int)))) then
          some true
        else
          (bif (!((eqZ w8.2.2 0) == o7.2.2)) then
            some true
          else
            (bif (!o7.2.2) then
              (bif (!eqZ w8.2.2 24) then
                some true
              else
                (bif o7.2.2 then
                  (bif (!eqZ w8.2.1 o7.2.1) then
                    some true
                  else
                    ((ladingref11_Ints w8.1 o7.1).bind fun i21 =>
                    some (!i21)))
                else
                  some false))
            else
              (bif o7.2.2 then
                (bif (!eqZ w8.2.1 o7.2.1) then
                  some true
                else
                  ((ladingref11_Ints w8.1 o7.1).bind fun i22 =>
                  some (!i22)))
              else
                some false))))))).bind fun x =>
  ladinglaw11_KeysChain.j3 l1 p2 p3 s4 c6 o7 x
noncomputable def ladinglaw11_KeysChain [Fuel] (l1 : List GFact) (p2 : Bs) (p3 : Int) : Option Bool :=
  (ladinglaw11_small).bind fun s4 =>
  (ladingref11_Few l1 [] 15).bind fun f5 =>
  bif (!f5) then
    some s4
  else
    ((keys_Chain l1 p2).bind fun c6 =>
    (keys_Owner l1 p2).bind fun o7 =>
    (keys_Walk l1 p2 c6).bind fun w8 =>
    (loopF (fun x => ladinglaw11_KeysChain.b1 l1 c6 x.1 x.2) (0, [])).bind fun x => match x with
    | .inl x =>
      ladinglaw11_KeysChain.j4 l1 p2 p3 s4 c6 o7 w8 x
    | .inr r => some r)
/-- lading/ladinglaw11.KeysMay -/
noncomputable def ladinglaw11_KeysMay.b1 [Fuel] (p4 : List Int) (v14 : Int) (v15 : List Int) : Option ((Int × List Int) ⊕ (List Int)) :=
  bif (ltZ v14 (p4.length : Int)) then
    ((z64 ((p4.length : Int) - 1)).bind fun v16 =>
    (z64 (v16 - v14)).bind fun v17 =>
    (idx p4 v17).bind fun v18 =>
    (app? v15 ([v18] : List Int)).bind fun l19 =>
    (z64 (v14 + 1)).bind fun v20 =>
    some (.inl (v20, l19)))
  else
    some (.inr v15)
noncomputable def ladinglaw11_KeysMay.j1 [Fuel] (l1 : List GFact) (p3 : GFact) (s6 : Bool) (m10 : Int) (v25 : Bool) : Option Bool :=
  bif v25 then
    some false
  else
    ((ladingref11_Name p3).bind fun n26 =>
    (keys_Owner l1 n26).bind fun o27 =>
    bif s6 then
      (bif (!eqZ m10 24) then
        (bif (!eqZ m10 22) then
          some true
        else
          (bif (eqZ p3.1 3) then
            some true
          else
            some (eqZ p3.1 7)))
      else
        (bif (!o27.2.2) then
          (bif (!eqZ p3.1 5) then
            (bif (!eqZ m10 22) then
              some true
            else
              (bif (eqZ p3.1 3) then
                some true
              else
                some (eqZ p3.1 7)))
          else
            some false)
        else
          some false))
    else
      some false)
noncomputable def ladinglaw11_KeysMay.j2 [Fuel] (l1 : List GFact) (p2 : List Int) (p3 : GFact) (p4 : List Int) (s6 : Bool) (m10 : Int) (m13 : Int) (v21 : List Int) : Option Bool :=
  (app? v21 p4).bind fun l22 =>
  (keys_May l1 p2 p3 l22).bind fun m23 =>
  (keys_May l1 p2 p3 []).bind fun m24 =>
  (bif (eqZ m10 0) then
    (bif (!eqZ m13 0) then
      some true
    else
      (bif (!eqZ m23 m10) then
        some true
      else
        (bif (!((eqZ m24 1) == (eqZ m10 1))) then
          some true
        else
          some (!((eqZ m24 24) == (eqZ m10 24))))))
  else
    (bif (!eqZ m23 m10) then
      some true
    else
      (bif (!((eqZ m24 1) == (eqZ m10 1))) then
        some true
      else
        some (!((eqZ m24 24) == (eqZ m10 24)))))).bind fun x =>
  ladinglaw11_KeysMay.j1 l1 p3 s6 m10 x
noncomputable def ladinglaw11_KeysMay.j3 [Fuel] (l1 : List GFact) (p2 : List Int) (p3 : GFact) (p4 : List Int) (p5 : List Int) (s6 : Bool) (v9 : Bool) : Option Bool :=
  bif v9 then
    some s6
  else
    ((keys_May l1 p2 p3 p4).bind fun m10 =>
    (app? ([] : List Int) p4).bind fun l11 =>
    (app? l11 p5).bind fun l12 =>
    (keys_May l1 p2 p3 l12).bind fun m13 =>
    (loopF (fun x => ladinglaw11_KeysMay.b1 p4 x.1 x.2) (0, [])).bind fun x =>
    ladinglaw11_KeysMay.j2 l1 p2 p3 p4 s6 m10 m13 x)
noncomputable def ladinglaw11_KeysMay [Fuel] (l1 : List GFact) (p2 : List Int) (p3 : GFact) (p4 : List Int) (p5 : List Int) : Option Bool :=
  (ladinglaw11_small).bind fun s6 =>
  ((app? ([p3] : List GFact) l1).bind fun l7 =>
  (ladingref11_Few l7 ([p2, p4, p5] : List (List Int)) 16).bind fun f8 =>
  bif (!f8) then
    some true
  else
    some (ltZ 15 (l1.length : Int))).bind fun x =>
  ladinglaw11_KeysMay.j3 l1 p2 p3 p4 p5 s6 x
/-- lading/keys.Delegates -/
noncomputable def keys_Delegates_v2 [Fuel] (facts1 : List GFact) (s2 : Bs) : Option (Int × Int × List Int) :=
  (keys_last_v2 facts1 s2).bind fun v3 =>
  (z64 (v3 + 1)).bind fun v4 =>
  (cut facts1 v4 (facts1.length : Int)).bind fun l5 =>
  (keys_last_v3 l5 s2).bind fun v6 =>
  bif (ltZ v6 0) then
    some (0, 0, [])
  else
    ((z64 (v3 + 1)).bind fun v7 =>
    (z64 (v7 + v6)).bind fun v8 =>
    (idx facts1 v8).bind fun v9 =>
    (slices_Clone_int_int_v2 v9.2.2.2.2.2.1).bind fun v10 =>
    some (v9.2.2.2.2.2.2.1, v9.2.2.2.2.2.2.2.1, v10))
/-- lading/ladinglaw11.KeysDelegate -/
noncomputable def ladinglaw11_KeysDelegate.j1 [Fuel] (v19 : Int) (v26 : Bool) : Option ((Int) ⊕ ((Unit) ⊕ (Bool))) :=
  bif v26 then
    some (.inr (.inr false))
  else
    ((z64 (v19 + 1)).bind fun v27 =>
    some (.inl v27))
noncomputable def ladinglaw11_KeysDelegate.b1 [Fuel] (p2 : Bs) (v7 : Int) (l11 : List GFact) (v12 : Int) (v19 : Int) : Option ((Int) ⊕ ((Unit) ⊕ (Bool))) :=
  bif (ltZ v19 (([1, 2, 4, 5, 6] : List Int).length : Int)) then
    ((idx ([1, 2, 4, 5, 6] : List Int) v19).bind fun v20 =>
    (z64 (v7 + 5)).bind fun v21 =>
    ((keys_May l11 [] (v20, p2, (0, 0, 0), (([] : Bs), (0, 0, 0), ([] : Bs), [], [], [], ([] : Bs)), (0, ([] : Bs), [], ([] : Bs), 0, 0, ([] : Bs), ([] : Bs), [], []), ([v21] : List Int), 1, 0, 0, 0) ([v12] : List Int)).bind fun m22 =>
    bif (!eqZ m22 23) then
      some true
    else
      ((z64 (v7 + 1)).bind fun v23 =>
      (keys_May l11 [] (v20, p2, (0, 0, 0), (([] : Bs), (0, 0, 0), ([] : Bs), [], [], [], ([] : Bs)), (0, ([] : Bs), [], ([] : Bs), 0, 0, ([] : Bs), ([] : Bs), [], []), ([v21] : List Int), 1, 0, 0, 0) ([v7, 999, v23] : List Int)).bind fun m24 =>
      bif (!eqZ m24 0) then
        some true
      else
        ((keys_May l11 [] (v20, p2, (0, 0, 0), (([] : Bs), (0, 0, 0), ([] : Bs), [], [], [], ([] : Bs)), (0, ([] : Bs), [], ([] : Bs), 0, 0, ([] : Bs), ([] : Bs), [], []), ([v21] : List Int), 1, 0, 0, 0) ([v7, v7] : List Int)).bind fun m25 =>
        some (!eqZ m25 23)))).bind fun x =>
    ladinglaw11_KeysDelegate.j1 v19 x)
  else
    some (.inr (.inl ()))
noncomputable def ladinglaw11_KeysDelegate.j2 [Fuel] (p2 : Bs) (p4 : Int) (s5 : Bool) (v7 : Int) (v8 : Int) (l11 : List GFact) (v12 : Int) : Option Bool :=
  (app? ([] : List GFact) l11).bind fun l28 =>
  (z64 (v7 + 2)).bind fun v29 =>
  (app? l28 ([(4, p2, (0, 0, 0), (([] : Bs), (0, 0, 0), ([] : Bs), [], [], [], ([] : Bs)), (0, ([] : Bs), [], ([] : Bs), 0, 0, ([] : Bs), ([] : Bs), [], []), ([v29] : List Int), 1, 0, 0, 0)] : List GFact)).bind fun l30 =>
  (app? ([] : List GFact) l11).bind fun l31 =>
  (app? l31 ([(5, p2, (0, 0, 0), (([] : Bs), (0, 0, 0), ([] : Bs), [], [], [], ([] : Bs)), (0, ([] : Bs), [], ([] : Bs), 0, 0, ([] : Bs), ([] : Bs), [], []), ([v7, v8] : List Int), 2, 0, 0, 0)] : List GFact)).bind fun l32 =>
  (keys_Delegates_v2 l30 p2).bind fun v33 =>
  (keys_Delegates_v2 l32 p2).bind fun v34 =>
  (keys_Owner_v2 l30 p2).bind fun v35 =>
  bif s5 then
    ((ladingref11_Ints v33.2.2 ([v12] : List Int)).bind fun i36 =>
    bif i36 then
      (bif (eqZ v33.1 1) then
        (bif (eqZ v33.2.1 p4) then
          (bif (eqZ v34.1 0) then
            (bif (eqZ v34.2.1 0) then
              (bif v35.2.1 then
                (bif (eqZ v35.1 1) then
                  ((z64 (v7 + 2)).bind fun v37 =>
                  (ladingref11_Ints v35.2.2 ([v37] : List Int)).bind fun i38 =>
                  bif i38 then
                    ((ladinglaw11_release p2).bind fun r39 =>
                    (keys_May l32 [] r39 ([v12] : List Int)).bind fun m40 =>
                    some (eqZ m40 23))
                  else
                    some false)
                else
                  some false)
              else
                some false)
            else
              some false)
          else
            some false)
        else
          some false)
      else
        some false)
    else
      some false)
  else
    some false
noncomputable def ladinglaw11_KeysDelegate.j3 [Fuel] (p2 : Bs) (p4 : Int) (s5 : Bool) (v7 : Int) (v8 : Int) (l11 : List GFact) (v12 : Int) (v18 : Bool) : Option Bool :=
  bif v18 then
    some false
  else
    ((loopF (fun x => ladinglaw11_KeysDelegate.b1 p2 v7 l11 v12 x) 0).bind fun x => match x with
    | .inl x =>
      ladinglaw11_KeysDelegate.j2 p2 p4 s5 v7 v8 l11 v12
    | .inr r => some r)
noncomputable def ladinglaw11_KeysDelegate [Fuel] (l1 : List GFact) (p2 : Bs) (p3 : Int) (p4 : Int) : Option Bool :=
  (ladinglaw11_small).bind fun s5 =>
  (ladingref11_Few l1 [] 12).bind fun f6 =>
  bif (!f6) then
    some s5
  else
    ((remZ .i64 p3 190).bind fun v7 =>
    (z64 (v7 + 1)).bind fun v8 =>
    (app? ([] : List GFact) l1).bind fun l9 =>
    (z64 (v7 + 5)).bind fun v10 =>
    (app? l9 ([(5, p2, (0, 0, 0), (([] : Bs), (0, 0, 0), ([] : Bs), [], [], [], ([] : Bs)), (0, ([] : Bs), [], ([] : Bs), 0, 0, ([] : Bs), ([] : Bs), [], []), ([v7, v8] : List Int), 2, 0, 0, 0), (6, p2, (0, 0, 0), (([] : Bs), (0, 0, 0), ([] : Bs), [], [], [], ([] : Bs)), (0, ([] : Bs), [], ([] : Bs), 0, 0, ([] : Bs), ([] : Bs), [], []), ([v10] : List Int), 1, p4, 0, 0)] : List GFact)).bind fun l11 =>
    (z64 (v7 + 5)).bind fun v12 =>
    ((ladinglaw11_release p2).bind fun r13 =>
    (keys_May l11 [] r13 ([v12] : List Int)).bind fun m14 =>
    bif (!((eqZ m14 0) == (leZ (l11.length : Int) p4))) then
      some true
    else
      ((ladinglaw11_release p2).bind fun r15 =>
      (z64 (v7 + 1)).bind fun v16 =>
      (keys_May l11 [] r15 ([v16, v7] : List Int)).bind fun m17 =>
      some (!eqZ m17 0))).bind fun x =>
    ladinglaw11_KeysDelegate.j3 p2 p4 s5 v7 v8 l11 v12 x)
/-- lading/ladingref11.Owner -/
noncomputable def ladingref11_Owner.j1 [Fuel] (at3 : Int) (i4 : Int) (v9 : Bool) : Option ((Int × Int) ⊕ (Int)) :=
  bif v9 then
    ((z64 (i4 + 1)).bind fun v10 =>
    some (.inl (i4, v10)))
  else
    ((z64 (i4 + 1)).bind fun v11 =>
    some (.inl (at3, v11)))
noncomputable def ladingref11_Owner.b1 [Fuel] (facts1 : List GFact) (name2 : Bs) (at3 : Int) (i4 : Int) : Option ((Int × Int) ⊕ (Int)) :=
  bif (ltZ i4 (facts1.length : Int)) then
    (((idx facts1 i4).bind fun v5 =>
    bif (eqZ v5.1 5) then
      ((idx facts1 i4).bind fun v6 =>
      some (decide (v6.2.1 = name2)))
    else
      ((idx facts1 i4).bind fun v7 =>
      bif (eqZ v7.1 4) then
        ((idx facts1 i4).bind fun v8 =>
        some (decide (v8.2.1 = name2)))
      else
        some false)).bind fun x =>
    ladingref11_Owner.j1 at3 i4 x)
  else
    some (.inr at3)
noncomputable def ladingref11_Owner.j2 [Fuel] (facts1 : List GFact) (at12 : Int) : Option ((List Int) × Int × Bool) :=
  bif (ltZ at12 0) then
    some ([], 0, false)
  else
    ((idx facts1 at12).bind fun v13 =>
    (app? ([] : List Int) v13.2.2.2.2.2.1).bind fun l14 =>
    (idx facts1 at12).bind fun v15 =>
    some (l14, v15.2.2.2.2.2.2.1, true))
noncomputable def ladingref11_Owner [Fuel] (facts1 : List GFact) (name2 : Bs) : Option ((List Int) × Int × Bool) :=
  (loopF (fun x => ladingref11_Owner.b1 facts1 name2 x.1 x.2) ((-1), 0)).bind fun x =>
  ladingref11_Owner.j2 facts1 x
/-- lading/ladingref11.Delegates -/
noncomputable def ladingref11_Delegates.j1 [Fuel] (v3 : Int) (v7 : Bool) : Option Int :=
  bif v7 then
    some (-1)
  else
    some v3
noncomputable def ladingref11_Delegates.j2 [Fuel] (v4 : Int) (v8 : Int) (v11 : Bool) : Option ((Int × Int) ⊕ (Int)) :=
  bif v11 then
    ((z64 (v4 + 1)).bind fun v12 =>
    some (.inl (v4, v12)))
  else
    ((z64 (v4 + 1)).bind fun v13 =>
    some (.inl (v8, v13)))
noncomputable def ladingref11_Delegates.j3 [Fuel] (facts1 : List GFact) (p2 : Bs) (v4 : Int) (v8 : Int) : Option ((Int × Int) ⊕ (Int)) :=
  ((idx facts1 v4).bind fun v9 =>
  bif (decide (v9.2.1 = p2)) then
    ((idx facts1 v4).bind fun v10 =>
    some (eqZ v10.1 6))
  else
    some false).bind fun x =>
  ladingref11_Delegates.j2 v4 v8 x
noncomputable def ladingref11_Delegates.b1 [Fuel] (facts1 : List GFact) (p2 : Bs) (v3 : Int) (v4 : Int) : Option ((Int × Int) ⊕ (Int)) :=
  bif (ltZ v4 (facts1.length : Int)) then
    ((((idx facts1 v4).bind fun v5 =>
    bif (decide (v5.2.1 = p2)) then
      ((idx facts1 v4).bind fun v6 =>
      some (eqZ v6.1 5))
    else
      some false).bind fun x =>
    ladingref11_Delegates.j1 v3 x).bind fun x =>
    ladingref11_Delegates.j3 facts1 p2 v4 x)
  else
    some (.inr v3)
noncomputable def ladingref11_Delegates.j4 [Fuel] (facts1 : List GFact) (v14 : Int) : Option ((List Int) × Int × Int) :=
  bif (ltZ v14 0) then
    some ([], 0, 0)
  else
    ((idx facts1 v14).bind fun v15 =>
    (app? ([] : List Int) v15.2.2.2.2.2.1).bind fun l16 =>
    (idx facts1 v14).bind fun v17 =>
    (idx facts1 v14).bind fun v18 =>
    some (l16, v17.2.2.2.2.2.2.1, v18.2.2.2.2.2.2.2.1))
noncomputable def ladingref11_Delegates [Fuel] (facts1 : List GFact) (p2 : Bs) : Option ((List Int) × Int × Int) :=
  (loopF (fun x => ladingref11_Delegates.b1 facts1 p2 x.1 x.2) ((-1), 0)).bind fun x =>
  ladingref11_Delegates.j4 facts1 x
/-- lading/ladingref11.right -/
noncomputable def ladingref11_right.j1 [Fuel] (i2 : Int) (v8 : Bool) : Option ((Int) ⊕ ((Unit) ⊕ (Bool))) :=
  bif v8 then
    some (.inr (.inr false))
  else
    ((z64 (i2 + 1)).bind fun v9 =>
    some (.inl v9))
noncomputable def ladingref11_right.b1 [Fuel] (f1 : GFact) (i2 : Int) : Option ((Int) ⊕ ((Unit) ⊕ (Bool))) :=
  bif (ltZ i2 (f1.2.2.2.2.2.1.length : Int)) then
    (((idx f1.2.2.2.2.2.1 i2).bind fun v3 =>
    bif (ltZ v3 0) then
      some true
    else
      ((idx f1.2.2.2.2.2.1 i2).bind fun v4 =>
      bif (leZ 200 v4) then
        some true
      else
        (bif (ltZ 0 i2) then
          ((z64 (i2 - 1)).bind fun v5 =>
          (idx f1.2.2.2.2.2.1 v5).bind fun v6 =>
          (idx f1.2.2.2.2.2.1 i2).bind fun v7 =>
          some (leZ v7 v6))
        else
          some false))).bind fun x =>
    ladingref11_right.j1 i2 x)
  else
    some (.inr (.inl ()))
noncomputable def ladingref11_right.j2 [Fuel] (f1 : GFact) : Option Bool :=
  bif (leZ (f1.2.2.2.2.2.1.length : Int) 12) then
    (bif (leZ 1 f1.2.2.2.2.2.2.1) then
      some (leZ f1.2.2.2.2.2.2.1 (f1.2.2.2.2.2.1.length : Int))
    else
      some false)
  else
    some false
noncomputable def ladingref11_right [Fuel] (f1 : GFact) : Option Bool :=
  (loopF (fun x => ladingref11_right.b1 f1 x) 0).bind fun x => match x with
  | .inl x =>
    ladingref11_right.j2 f1
  | .inr r => some r
/-- lading/ladingref11.May -/
noncomputable def ladingref11_May.j1 [Fuel] (v21 : Bool) : Option Int :=
  bif v21 then
    some 0
  else
    some 23
noncomputable def ladingref11_May.j2 [Fuel] (facts1 : List GFact) (p3 : GFact) (p4 : List Int) (v15 : List Int) (v16 : Int) : Option Int :=
  (ladingref11_Count p4 v15).bind fun c17 =>
  bif (leZ v16 c17) then
    some 0
  else
    ((ladingref11_Name p3).bind fun n18 =>
    (ladingref11_Delegates facts1 n18).bind fun d19 =>
    (bif (eqZ p3.1 0) then
      (bif (leZ 1 d19.2.1) then
        (bif (leZ (facts1.length : Int) d19.2.2) then
          ((ladingref11_Count p4 d19.1).bind fun c20 =>
          some (leZ d19.2.1 c20))
        else
          some false)
      else
        some false)
    else
      some false).bind fun x =>
    ladingref11_May.j1 x)
noncomputable def ladingref11_May.j3 [Fuel] (facts1 : List GFact) (p3 : GFact) (p4 : List Int) (o13 : (List Int) × Int × Bool) (v14 : Bool) : Option Int :=
  bif v14 then
    some 24
  else
    ((bif (!o13.2.2) then
      some (p3.2.2.2.2.2.1, p3.2.2.2.2.2.2.1)
    else
      some (o13.1, o13.2.1)).bind fun x =>
    ladingref11_May.j2 facts1 p3 p4 x.1 x.2)
noncomputable def ladingref11_May.j4 [Fuel] (facts1 : List GFact) (p2 : List Int) (p3 : GFact) (p4 : List Int) (v10 : Bool) : Option Int :=
  bif v10 then
    ((ladingref11_Count p4 p2).bind fun c11 =>
    bif (eqZ c11 0) then
      some 22
    else
      some 0)
  else
    ((ladingref11_Name p3).bind fun n12 =>
    (ladingref11_Owner facts1 n12).bind fun o13 =>
    (bif (!o13.2.2) then
      some (!eqZ p3.1 5)
    else
      some false).bind fun x =>
    ladingref11_May.j3 facts1 p3 p4 o13 x)
noncomputable def ladingref11_May.j5 [Fuel] (facts1 : List GFact) (p2 : List Int) (p3 : GFact) (p4 : List Int) (v9 : Bool) : Option Int :=
  bif v9 then
    some 1
  else
    ((bif (eqZ p3.1 3) then
      some true
    else
      some (eqZ p3.1 7)).bind fun x =>
    ladingref11_May.j4 facts1 p2 p3 p4 x)
noncomputable def ladingref11_May.j6 [Fuel] (facts1 : List GFact) (p2 : List Int) (p3 : GFact) (p4 : List Int) (v5 : Bool) : Option Int :=
  bif v5 then
    some 1
  else
    ((bif (eqZ p3.1 4) then
      ((ladingref11_right p3).bind fun r6 =>
      some (!r6))
    else
      (bif (eqZ p3.1 5) then
        ((ladingref11_right p3).bind fun r7 =>
        some (!r7))
      else
        (bif (eqZ p3.1 6) then
          ((ladingref11_right p3).bind fun r8 =>
          some (!r8))
        else
          some false))).bind fun x =>
    ladingref11_May.j5 facts1 p2 p3 p4 x)
noncomputable def ladingref11_May [Fuel] (facts1 : List GFact) (p2 : List Int) (p3 : GFact) (p4 : List Int) : Option Int :=
  (bif (ltZ p3.1 0) then
    some true
  else
    some (leZ 8 p3.1)).bind fun x =>
  ladingref11_May.j6 facts1 p2 p3 p4 x
/-- lading/ladingref11.Admit -/
noncomputable def ladingref11_Admit.j1 [Fuel] (facts1 : List GFact) (registry2 : List Int) (i4 : Int) (by6 : List Int) : Option ((Int) ⊕ (Int × Int)) :=
  (cut facts1 0 i4).bind fun l7 =>
  (idx facts1 i4).bind fun v8 =>
  (ladingref11_May l7 registry2 v8 by6).bind fun m9 =>
  bif (!eqZ m9 0) then
    some (.inr (i4, m9))
  else
    ((z64 (i4 + 1)).bind fun v10 =>
    some (.inl v10))
noncomputable def ladingref11_Admit.b1 [Fuel] (facts1 : List GFact) (registry2 : List Int) (signers3 : List (List Int)) (i4 : Int) : Option ((Int) ⊕ (Int × Int)) :=
  bif (ltZ i4 (facts1.length : Int)) then
    ((bif (ltZ i4 (signers3.length : Int)) then
      ((idx signers3 i4).bind fun v5 =>
      some v5)
    else
      some []).bind fun x =>
    ladingref11_Admit.j1 facts1 registry2 i4 x)
  else
    some (.inr ((facts1.length : Int), 0))
noncomputable def ladingref11_Admit [Fuel] (facts1 : List GFact) (registry2 : List Int) (signers3 : List (List Int)) : Option (Int × Int) :=
  loopF (fun x => ladingref11_Admit.b1 facts1 registry2 signers3 x) 0
/-- lading/ladingref11.Chain -/
noncomputable def ladingref11_Chain.j1 [Fuel] (i3 : Int) (out4 : List Int) (v9 : Bool) : Option ((Int × List Int) ⊕ (List Int)) :=
  bif v9 then
    ((app? out4 ([i3] : List Int)).bind fun l10 =>
    (z64 (i3 + 1)).bind fun v11 =>
    some (.inl (v11, l10)))
  else
    ((z64 (i3 + 1)).bind fun v12 =>
    some (.inl (v12, out4)))
noncomputable def ladingref11_Chain.b1 [Fuel] (facts1 : List GFact) (name2 : Bs) (i3 : Int) (out4 : List Int) : Option ((Int × List Int) ⊕ (List Int)) :=
  bif (ltZ i3 (facts1.length : Int)) then
    (((idx facts1 i3).bind fun v5 =>
    bif (eqZ v5.1 5) then
      ((idx facts1 i3).bind fun v6 =>
      some (decide (v6.2.1 = name2)))
    else
      ((idx facts1 i3).bind fun v7 =>
      bif (eqZ v7.1 4) then
        ((idx facts1 i3).bind fun v8 =>
        some (decide (v8.2.1 = name2)))
      else
        some false)).bind fun x =>
    ladingref11_Chain.j1 i3 out4 x)
  else
    some (.inr out4)
noncomputable def ladingref11_Chain [Fuel] (facts1 : List GFact) (name2 : Bs) : Option (List Int) :=
  loopF (fun x => ladingref11_Chain.b1 facts1 name2 x.1 x.2) (0, [])
/-- lading/ladingref11.Walk -/
noncomputable def ladingref11_Walk [Fuel] (facts1 : List GFact) (name2 : Bs) (chain3 : List Int) : Option ((List Int) × Int × Int) :=
  (ladingref11_Chain facts1 name2).bind fun c4 =>
  (ladingref11_Ints chain3 c4).bind fun i5 =>
  bif (!i5) then
    some ([], 0, 19)
  else
    ((ladingref11_Owner facts1 name2).bind fun o6 =>
    bif (!o6.2.2) then
      some ([], 0, 24)
    else
      some (o6.1, o6.2.1, 0))
/-- lading/ladinglaw11.KeysTells -/
noncomputable def ladinglaw11_KeysTells.j1 [Fuel] (l1 : List GFact) (p2 : List Int) (p4 : GFact) (p5 : List Int) (s8 : Bool) (o14 : (List Int) × Int × Bool) (w26 : (List Int) × Int × Int) (v30 : Bool) : Option Bool :=
  bif v30 then
    some false
  else
    (bif s8 then
      ((keys_May l1 p2 p4 p5).bind fun m31 =>
      (ladingref11_May l1 p2 p4 p5).bind fun m32 =>
      bif (eqZ m31 m32) then
        ((ladingref11_Ints w26.1 o14.1).bind fun i33 =>
        bif i33 then
          (bif (!o14.2.2) then
            some true
          else
            (bif (eqZ w26.2.1 o14.2.1) then
              some (eqZ w26.2.2 0)
            else
              some false))
        else
          some false)
      else
        some false)
    else
      some false)
noncomputable def ladinglaw11_KeysTells.j2 [Fuel] (l1 : List GFact) (p2 : List Int) (p3 : List (List Int)) (p4 : GFact) (p5 : List Int) (p6 : Bs) (p7 : List Int) (s8 : Bool) (o14 : (List Int) × Int × Bool) (v19 : Bool) : Option Bool :=
  bif v19 then
    some false
  else
    ((keys_Admit l1 p2 p3).bind fun a20 =>
    (ladingref11_Admit l1 p2 p3).bind fun a21 =>
    (keys_Walk l1 p6 p7).bind fun w22 =>
    (ladingref11_Walk l1 p6 p7).bind fun w23 =>
    (keys_Chain l1 p6).bind fun c24 =>
    (ladingref11_Chain l1 p6).bind fun c25 =>
    (keys_Walk l1 p6 c25).bind fun w26 =>
    (bif (!eqZ a20.1 a21.1) then
      some true
    else
      (bif (!eqZ a20.2 a21.2) then
        some true
      else
        ((ladingref11_Ints w22.1 w23.1).bind fun i27 =>
        bif (!i27) then
          some true
        else
          (bif (!eqZ w22.2.1 w23.2.1) then
            some true
          else
            (bif (!eqZ w22.2.2 w23.2.2) then
              some true
            else
              ((ladingref11_Chain l1 p6).bind fun c28 =>
              (ladingref11_Ints c24 c28).bind fun i29 =>
              some (!i29))))))).bind fun x =>
    ladinglaw11_KeysTells.j1 l1 p2 p4 p5 s8 o14 w26 x)
noncomputable def ladinglaw11_KeysTells.j3 [Fuel] (l1 : List GFact) (p2 : List Int) (p3 : List (List Int)) (p4 : GFact) (p5 : List Int) (p6 : Bs) (p7 : List Int) (s8 : Bool) (v12 : Bool) : Option Bool :=
  bif v12 then
    some s8
  else
    ((keys_Owner l1 p6).bind fun o13 =>
    (ladingref11_Owner l1 p6).bind fun o14 =>
    (keys_Delegates l1 p6).bind fun d15 =>
    (ladingref11_Delegates l1 p6).bind fun d16 =>
    ((ladingref11_Ints o13.1 o14.1).bind fun i17 =>
    bif (!i17) then
      some true
    else
      (bif (!eqZ o13.2.1 o14.2.1) then
        some true
      else
        (bif (!(o13.2.2 == o14.2.2)) then
          some true
        else
          ((ladingref11_Ints d15.1 d16.1).bind fun i18 =>
          bif (!i18) then
            some true
          else
            (bif (!eqZ d15.2.1 d16.2.1) then
              some true
            else
              some (!eqZ d15.2.2 d16.2.2)))))).bind fun x =>
    ladinglaw11_KeysTells.j2 l1 p2 p3 p4 p5 p6 p7 s8 o14 x)
noncomputable def ladinglaw11_KeysTells [Fuel] (l1 : List GFact) (p2 : List Int) (p3 : List (List Int)) (p4 : GFact) (p5 : List Int) (p6 : Bs) (p7 : List Int) : Option Bool :=
  (ladinglaw11_small).bind fun s8 =>
  ((app? ([p4] : List GFact) l1).bind fun l9 =>
  (app? ([p5, p2, p7] : List (List Int)) p3).bind fun l10 =>
  (ladingref11_Few l9 l10 18).bind fun f11 =>
  bif (!f11) then
    some true
  else
    some (ltZ 15 (l1.length : Int))).bind fun x =>
  ladinglaw11_KeysTells.j3 l1 p2 p3 p4 p5 p6 p7 s8 x
end Go.Proofs.Ytnbkjaoehkmcpaa
