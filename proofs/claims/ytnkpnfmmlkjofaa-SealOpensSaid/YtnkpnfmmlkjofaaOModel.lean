/-
  The functions as plain Lean.
-/
import Derived.Test.YtnkpnfmmlkjofaaD2
import Derived.Test.YtnkpnfmmlkjofaaE3
import Derived.Test.YtnkpnfmmlkjofaaProg
import Derived.KernelRfl
namespace Go.Proofs.Ytnkpnfmmlkjofaa
open Go.Lad
set_option linter.unusedVariables false
/-- Key, Text -/
abbrev GSealed : Type := Int × Bs
/-- Key, Text, Mark -/
abbrev GSigned : Type := Int × Bs × Int
/-- lading/seal.New -/
noncomputable def seal_New [Fuel] : Option ((List GSealed) × List (GSealed × Int)) :=
  some ([], ([] : List ((Int × Bs) × Int)))
/-- lading/seal.key -/
noncomputable def seal_key [Fuel] (n1 : Int) : Option Bool :=
  bif (leZ 0 n1) then
    some (ltZ n1 200)
  else
    some false
/-- (*lading/seal.Ring).Sign -/
noncomputable def seal_Ring_Sign [Fuel] (k1 : Int) (text2 : Bs) (p3 : List GSealed) (p4 : List (GSealed × Int)) : Option (GSigned × (List GSealed) × List (GSealed × Int)) :=
  (seal_key k1).bind fun k5 =>
  bif (!k5) then
    some ((0, ([] : Bs), 0), p3, p4)
  else
    (bif (!(lookM p4 (k1, text2)).isSome) then
      ((app? p3 ([(k1, text2)] : List GSealed)).bind fun l6 =>
      some ((k1, text2, (p3.length : Int)), l6, (putM p4 (k1, text2) (p3.length : Int))))
    else
      some ((k1, text2, ((lookM p4 (k1, text2)).getD 0)), p3, p4))
/-- (*lading/seal.Ring).Valid -/
noncomputable def seal_Ring_Valid [Fuel] (s1 : GSigned) (p2 : List GSealed) (p3 : List (GSealed × Int)) : Option Bool :=
  bif (lookM p3 (s1.1, s1.2.1)).isSome then
    some (eqZ ((lookM p3 (s1.1, s1.2.1)).getD 0) s1.2.2)
  else
    some false
/-- slices.Clone[[]lading/api.Sealed,lading/api.Sealed] -/
noncomputable def slices_Clone_api_Sealed_api_Sealed [Fuel] (s1 : List GSealed) : Option (List GSealed) :=
  bothN s1 (
    some []) (
    (app? ([] : List GSealed) s1).bind fun l2 =>
    some l2)
/-- (*lading/seal.Ring).All -/
noncomputable def seal_Ring_All [Fuel] (p1 : List GSealed) (p2 : List (GSealed × Int)) : Option (List GSealed) :=
  (slices_Clone_api_Sealed_api_Sealed p1).bind fun s3 =>
  some s3
/-- lading/ladinglaw05.small -/
noncomputable def ladinglaw05_small.j1 [Fuel] (s2 : GSigned × (List GSealed) × List (GSealed × Int)) (s5 : GSigned × (List GSealed) × List (GSealed × Int)) (one6 : Bool) : Option Bool :=
  bif one6 then
    ((seal_Ring_Valid s2.1 s5.2.1 s5.2.2).bind fun v7 =>
    bif v7 then
      ((seal_Ring_Valid (3, ([97] : Bs), 1) s5.2.1 s5.2.2).bind fun v8 =>
      bif (!v8) then
        ((seal_Ring_Valid (3, ([98] : Bs), 0) s5.2.1 s5.2.2).bind fun v9 =>
        bif (!v9) then
          ((seal_Ring_All s5.2.1 s5.2.2).bind fun a10 =>
          some (eqZ (a10.length : Int) 2))
        else
          some false)
      else
        some false)
    else
      some false)
  else
    some false
noncomputable def ladinglaw05_small [Fuel] : Option Bool :=
  (seal_New).bind fun n1 =>
  (seal_Ring_Sign 3 ([97] : Bs) n1.1 n1.2).bind fun s2 =>
  (seal_Ring_Sign 4 ([97] : Bs) s2.2.1 s2.2.2).bind fun s3 =>
  (seal_Ring_Sign 3 ([97] : Bs) s3.2.1 s3.2.2).bind fun s4 =>
  (seal_Ring_Sign 200 ([97] : Bs) s4.2.1 s4.2.2).bind fun s5 =>
  (bif ((eqZ s2.1.1 3 && (decide (s2.1.2.1 = ([97] : Bs)) && eqZ s2.1.2.2 0))) then
    (bif ((eqZ s3.1.1 4 && (decide (s3.1.2.1 = ([97] : Bs)) && eqZ s3.1.2.2 1))) then
      (bif ((eqZ s4.1.1 s2.1.1 && (decide (s4.1.2.1 = s2.1.2.1) && eqZ s4.1.2.2 s2.1.2.2))) then
        some ((eqZ s5.1.1 0 && (decide (s5.1.2.1 = ([] : Bs)) && eqZ s5.1.2.2 0)))
      else
        some false)
    else
      some false)
  else
    some false).bind fun x =>
  ladinglaw05_small.j1 s2 s5 x
/-- lading/ladingref05.Few -/
noncomputable def ladingref05_Few.j1 [Fuel] (l1 : List GSealed) (n2 : Int) (i3 : Int) (v4 : Bool) : Option ((Int) ⊕ (Bool)) :=
  bif v4 then
    ((idx l1 i3).bind fun v5 =>
    bif (ltZ 500 (v5.2.length : Int)) then
      some (.inr false)
    else
      ((z64 (i3 + 1)).bind fun v6 =>
      some (.inl v6)))
  else
    some (.inr (leZ (l1.length : Int) n2))
noncomputable def ladingref05_Few.b1 [Fuel] (l1 : List GSealed) (n2 : Int) (i3 : Int) : Option ((Int) ⊕ (Bool)) :=
  (bif (ltZ i3 (l1.length : Int)) then
    some (leZ i3 n2)
  else
    some false).bind fun x =>
  ladingref05_Few.j1 l1 n2 i3 x
noncomputable def ladingref05_Few [Fuel] (l1 : List GSealed) (n2 : Int) : Option Bool :=
  loopF (fun x => ladingref05_Few.b1 l1 n2 x) 0
/-- lading/seal.Open -/
noncomputable def seal_Open.b1 [Fuel] (l1 : List GSealed) (v3 : Int) (v4 : List GSealed) (v5 : List (GSealed × Int)) : Option ((Int × (List GSealed) × List (GSealed × Int)) ⊕ (((List GSealed) × List (GSealed × Int)) ⊕ (Int × (List GSealed) × List (GSealed × Int)))) :=
  bif (ltZ v3 (l1.length : Int)) then
    ((idx l1 v3).bind fun v6 =>
    (seal_key v6.1).bind fun k7 =>
    bif (!k7) then
      (Option.map Sum.inr (Option.map Sum.inr (none)))
    else
      ((seal_Ring_Sign v6.1 v6.2 v4 v5).bind fun s8 =>
      (z64 (v3 + 1)).bind fun v9 =>
      some (.inl (v9, s8.2.1, s8.2.2))))
  else
    some (.inr (.inl (v4, v5)))
noncomputable def seal_Open.j1 [Fuel] (l1 : List GSealed) (v10 : List GSealed) (v11 : List (GSealed × Int)) : Option (Int × (List GSealed) × List (GSealed × Int)) :=
  bif (ltZ (v10.length : Int) (l1.length : Int)) then
    none
  else
    some (0, v10, v11)
noncomputable def seal_Open [Fuel] (l1 : List GSealed) : Option (Int × (List GSealed) × List (GSealed × Int)) :=
  (seal_New).bind fun n2 =>
  (loopF (fun x => seal_Open.b1 l1 x.1 x.2.1 x.2.2) (0, n2.1, n2.2)).bind fun x => match x with
  | .inl x =>
    seal_Open.j1 l1 x.1 x.2
  | .inr r => some r
/-- lading/ladingref05.Same -/
noncomputable def ladingref05_Same.b1 [Fuel] (a1 : List GSealed) (b2 : List GSealed) (i3 : Int) : Option ((Int) ⊕ (Bool)) :=
  bif (ltZ i3 (a1.length : Int)) then
    ((idx a1 i3).bind fun v4 =>
    (idx b2 i3).bind fun v5 =>
    bif (!((eqZ v4.1 v5.1 && decide (v4.2 = v5.2)))) then
      some (.inr false)
    else
      ((z64 (i3 + 1)).bind fun v6 =>
      some (.inl v6)))
  else
    some (.inr true)
noncomputable def ladingref05_Same [Fuel] (a1 : List GSealed) (b2 : List GSealed) : Option Bool :=
  bif (!eqZ (a1.length : Int) (b2.length : Int)) then
    some false
  else
    (loopF (fun x => ladingref05_Same.b1 a1 b2 x) 0)
/-- lading/seal.Open -/
noncomputable def seal_Open_v2.b1 [Fuel] (l1 : List GSealed) (v3 : Int) (v4 : List GSealed) (v5 : List (GSealed × Int)) : Option ((Int × (List GSealed) × List (GSealed × Int)) ⊕ (((List GSealed) × List (GSealed × Int)) ⊕ (Int))) :=
  bif (ltZ v3 (l1.length : Int)) then
    ((idx l1 v3).bind fun v6 =>
    (seal_key v6.1).bind fun k7 =>
    bif (!k7) then
      some (.inr (.inr 1))
    else
      ((seal_Ring_Sign v6.1 v6.2 v4 v5).bind fun s8 =>
      (z64 (v3 + 1)).bind fun v9 =>
      some (.inl (v9, s8.2.1, s8.2.2))))
  else
    some (.inr (.inl (v4, v5)))
noncomputable def seal_Open_v2.j1 [Fuel] (l1 : List GSealed) (v10 : List GSealed) (v11 : List (GSealed × Int)) : Option Int :=
  bif (ltZ (v10.length : Int) (l1.length : Int)) then
    some 5
  else
    none
noncomputable def seal_Open_v2 [Fuel] (l1 : List GSealed) : Option Int :=
  (seal_New).bind fun n2 =>
  (loopF (fun x => seal_Open_v2.b1 l1 x.1 x.2.1 x.2.2) (0, n2.1, n2.2)).bind fun x => match x with
  | .inl x =>
    seal_Open_v2.j1 l1 x.1 x.2
  | .inr r => some r
/-- maps.Clone[map[lading/api.Sealed]int,lading/api.Sealed,int] -/
noncomputable def maps_Clone [Fuel] (m : List (GSealed × Int)) : Option (List (GSealed × Int)) := some m
/-- (*lading/seal.Ring).Copy -/
noncomputable def seal_Ring_Copy [Fuel] (p1 : List GSealed) (p2 : List (GSealed × Int)) : Option ((List GSealed) × List (GSealed × Int)) :=
  (slices_Clone_api_Sealed_api_Sealed p1).bind fun s3 =>
  (maps_Clone p2).bind fun c4 =>
  some (s3, c4)
/-- lading/ladinglaw05.SealOpens -/
noncomputable def ladinglaw05_SealOpens.j1 [Fuel] (v7 : Int) (v8 : List GSigned) (s13 : GSigned × (List GSealed) × List (GSealed × Int)) (v16 : Bool) : Option ((Int × (List GSigned) × (List GSealed) × List (GSealed × Int)) ⊕ ((List GSigned) × (List GSealed) × List (GSealed × Int))) :=
  bif v16 then
    ((app? v8 ([s13.1] : List GSigned)).bind fun l17 =>
    (z64 (v7 + 1)).bind fun v18 =>
    some (.inl (v18, l17, s13.2.1, s13.2.2)))
  else
    ((z64 (v7 + 1)).bind fun v19 =>
    some (.inl (v19, v8, s13.2.1, s13.2.2)))
noncomputable def ladinglaw05_SealOpens.b1 [Fuel] (l1 : List GSealed) (v7 : Int) (v8 : List GSigned) (v9 : List GSealed) (v10 : List (GSealed × Int)) : Option ((Int × (List GSigned) × (List GSealed) × List (GSealed × Int)) ⊕ ((List GSigned) × (List GSealed) × List (GSealed × Int))) :=
  bif (ltZ v7 (l1.length : Int)) then
    ((idx l1 v7).bind fun v11 =>
    (idx l1 v7).bind fun v12 =>
    (seal_Ring_Sign v11.1 v12.2 v9 v10).bind fun s13 =>
    ((idx l1 v7).bind fun v14 =>
    bif (leZ 0 v14.1) then
      ((idx l1 v7).bind fun v15 =>
      some (ltZ v15.1 200))
    else
      some false).bind fun x =>
    ladinglaw05_SealOpens.j1 v7 v8 s13 x)
  else
    some (.inr (v8, v9, v10))
noncomputable def ladinglaw05_SealOpens.b2 [Fuel] (v20 : List GSigned) (o24 : Int × (List GSealed) × List (GSealed × Int)) (v27 : Int) : Option ((Int) ⊕ ((Unit) ⊕ (Bool))) :=
  bif (ltZ v27 (v20.length : Int)) then
    ((idx v20 v27).bind fun _28 =>
    (idx v20 v27).bind fun v29 =>
    (seal_Ring_Valid v29 o24.2.1 o24.2.2).bind fun v30 =>
    bif (!v30) then
      some (.inr (.inr false))
    else
      ((z64 (v27 + 1)).bind fun v31 =>
      some (.inl v31)))
  else
    some (.inr (.inl ()))
noncomputable def ladinglaw05_SealOpens.j2 [Fuel] (v41 : Bool) : Option ((Unit) ⊕ (Bool)) :=
  bif v41 then
    some (.inr false)
  else
    some (.inl ())
noncomputable def ladinglaw05_SealOpens.j3 [Fuel] (p2 : GSealed) (s3 : Bool) (c42 : (List GSealed) × List (GSealed × Int)) (s44 : GSigned × (List GSealed) × List (GSealed × Int)) (a45 : List GSealed) (v49 : Bool) : Option Bool :=
  bif v49 then
    some false
  else
    ((cat? p2.2 ([120] : Bs)).bind fun s50 =>
    (seal_Ring_Sign 0 s50 c42.1 c42.2).bind fun s51 =>
    bif s3 then
      ((seal_Ring_All s44.2.1 s44.2.2).bind fun a52 =>
      (ladingref05_Same a52 a45).bind fun s53 =>
      some s53)
    else
      some false)
noncomputable def ladinglaw05_SealOpens.j4 [Fuel] (p2 : GSealed) (s3 : Bool) (v21 : List GSealed) (v22 : List (GSealed × Int)) (a23 : List GSealed) : Option Bool :=
  (seal_Ring_Copy v21 v22).bind fun c42 =>
  (seal_Ring_All c42.1 c42.2).bind fun a43 =>
  (seal_Ring_Sign p2.1 p2.2 v21 v22).bind fun s44 =>
  (seal_Ring_All s44.2.1 s44.2.2).bind fun a45 =>
  ((seal_Ring_All c42.1 c42.2).bind fun a46 =>
  bif (!eqZ (a46.length : Int) (a43.length : Int)) then
    some true
  else
    ((seal_Ring_All c42.1 c42.2).bind fun a47 =>
    (ladingref05_Same a47 a23).bind fun s48 =>
    some (!s48))).bind fun x =>
  ladinglaw05_SealOpens.j3 p2 s3 c42 s44 a45 x
noncomputable def ladinglaw05_SealOpens.j5 [Fuel] (p2 : GSealed) (s3 : Bool) (v21 : List GSealed) (v22 : List (GSealed × Int)) (a23 : List GSealed) : Option Bool :=
  (bif (ltZ 0 (a23.length : Int)) then
    ((app? ([] : List GSealed) a23).bind fun l32 =>
    (z64 ((a23.length : Int) - 1)).bind fun v33 =>
    (idx a23 v33).bind fun v34 =>
    (app? l32 ([v34] : List GSealed)).bind fun l35 =>
    (seal_Open_v2 l35).bind fun v36 =>
    (app? ([] : List GSealed) a23).bind fun l37 =>
    (idx a23 0).bind fun v38 =>
    (app? l37 ([v38, (200, ([] : Bs))] : List GSealed)).bind fun l39 =>
    (seal_Open_v2 l39).bind fun v40 =>
    (bif (!eqZ v36 5) then
      some true
    else
      some (!eqZ v40 1)).bind fun x =>
    ladinglaw05_SealOpens.j2 x)
  else
    some (.inl ())).bind fun x => match x with
  | .inl x =>
    ladinglaw05_SealOpens.j4 p2 s3 v21 v22 a23
  | .inr r => some r
noncomputable def ladinglaw05_SealOpens.j6 [Fuel] (p2 : GSealed) (s3 : Bool) (v20 : List GSigned) (v21 : List GSealed) (v22 : List (GSealed × Int)) : Option Bool :=
  (seal_Ring_All v21 v22).bind fun a23 =>
  (seal_Open a23).bind fun o24 =>
  bif (!eqZ o24.1 0) then
    some false
  else
    ((seal_Ring_All o24.2.1 o24.2.2).bind fun a25 =>
    (ladingref05_Same a25 a23).bind fun s26 =>
    bif (!s26) then
      some false
    else
      ((loopF (fun x => ladinglaw05_SealOpens.b2 v20 o24 x) 0).bind fun x => match x with
      | .inl x =>
        ladinglaw05_SealOpens.j5 p2 s3 v21 v22 a23
      | .inr r => some r))
noncomputable def ladinglaw05_SealOpens.j7 [Fuel] (l1 : List GSealed) (p2 : GSealed) (s3 : Bool) (n4 : (List GSealed) × List (GSealed × Int)) (v6 : Bool) : Option Bool :=
  bif v6 then
    (bif s3 then
      some true
    else
      some false)
  else
    ((loopF (fun x => ladinglaw05_SealOpens.b1 l1 x.1 x.2.1 x.2.2.1 x.2.2.2) (0, [], n4.1, n4.2)).bind fun x =>
    ladinglaw05_SealOpens.j6 p2 s3 x.1 x.2.1 x.2.2)
noncomputable def ladinglaw05_SealOpens [Fuel] (l1 : List GSealed) (p2 : GSealed) : Option Bool :=
  (ladinglaw05_small).bind fun s3 =>
  (seal_New).bind fun n4 =>
  ((ladingref05_Few l1 40).bind fun f5 =>
  bif (!f5) then
    some true
  else
    (bif (ltZ 500 (p2.2.length : Int)) then
      some true
    else
      some false)).bind fun x =>
  ladinglaw05_SealOpens.j7 l1 p2 s3 n4 x
end Go.Proofs.Ytnkpnfmmlkjofaa
