/-
  The functions as plain Lean.
-/
import Derived.Test.YthibbellkcdodaaD2
import Derived.Test.YthibbellkcdodaaE4
import Derived.Test.YthibbellkcdodaaProg
import Derived.KernelRfl
namespace Go.Proofs.Ythibbellkcdodaa
open Go.Lad
set_option linter.unusedVariables false
/-- Kind, Fact, Need -/
abbrev GWhy : Type := Int × Int × Int
/-- Lits, Why -/
abbrev GClause : Type := (List Int) × GWhy
/-- Core, Proof, Models -/
abbrev GRefusal : Type := (List Int) × (List (List Int)) × List (List Bool)
/-- lading/ladinglaw30.of -/
noncomputable def ladinglaw30_of [Fuel] (fact1 : Int) (lits2 : List Int) : Option GClause :=
 some (lits2, 0, fact1, 0)
/-- lading/clause.Right$1$1 -/
noncomputable def clause_Right_1_1 [Fuel] (x1 : Int) (p2 : Int) : Option Bool :=
 bif (eqZ x1 0) then
  some true
 else
  ((z64 (-p2)).bind fun v3 =>
  bif (ltZ x1 v3) then
   some true
  else
   some (ltZ p2 x1))
/-- slices.IndexFunc[[]int,int] -/
noncomputable def slices_IndexFunc_int_int.b1 [Fuel] (s1 : List Int) (p2 : Int) (v3 : Int) : Option ((Int) ⊕ (Int)) :=
 bif (ltZ v3 (s1.length : Int)) then
  ((idx s1 v3).bind fun v4 =>
  (clause_Right_1_1 v4 p2).bind fun v'5 =>
  bif v'5 then
   some (.inr v3)
  else
   ((z64 (v3 + 1)).bind fun v6 =>
   some (.inl v6)))
 else
  some (.inr (-1))
noncomputable def slices_IndexFunc_int_int [Fuel] (s1 : List Int) (p2 : Int) : Option Int :=
 loopF (fun x => slices_IndexFunc_int_int.b1 s1 p2 x) 0
/-- slices.ContainsFunc[[]int,int] -/
noncomputable def slices_ContainsFunc_int_int [Fuel] (s1 : List Int) (p2 : Int) : Option Bool :=
 (slices_IndexFunc_int_int s1 p2).bind fun i3 =>
 some (leZ 0 i3)
/-- lading/clause.Right$1 -/
noncomputable def clause_Right_1 [Fuel] (c1 : GClause) (p2 : Int) : Option Bool :=
 (slices_ContainsFunc_int_int c1.1 p2).bind fun i3 =>
 some i3
/-- slices.IndexFunc[[]lading/api.Clause,lading/api.Clause] -/
noncomputable def slices_IndexFunc_api_Clause_api_Clause.b1 [Fuel] (s1 : List GClause) (p2 : Int) (v3 : Int) : Option ((Int) ⊕ (Int)) :=
 bif (ltZ v3 (s1.length : Int)) then
  ((idx s1 v3).bind fun v4 =>
  (clause_Right_1 v4 p2).bind fun v'5 =>
  bif v'5 then
   some (.inr v3)
  else
   ((z64 (v3 + 1)).bind fun v6 =>
   some (.inl v6)))
 else
  some (.inr (-1))
noncomputable def slices_IndexFunc_api_Clause_api_Clause [Fuel] (s1 : List GClause) (p2 : Int) : Option Int :=
 loopF (fun x => slices_IndexFunc_api_Clause_api_Clause.b1 s1 p2 x) 0
/-- slices.ContainsFunc[[]lading/api.Clause,lading/api.Clause] -/
noncomputable def slices_ContainsFunc_api_Clause_api_Clause [Fuel] (s1 : List GClause) (p2 : Int) : Option Bool :=
 (slices_IndexFunc_api_Clause_api_Clause s1 p2).bind fun c3 =>
 some (leZ 0 c3)
/-- lading/clause.Right -/
noncomputable def clause_Right.j1 [Fuel] (l1 : List GClause) (n2 : Int) (v3 : Bool) : Option Bool :=
 bif v3 then
  some false
 else
  ((slices_ContainsFunc_api_Clause_api_Clause l1 n2).bind fun c4 =>
  some (!c4))
noncomputable def clause_Right [Fuel] (l1 : List GClause) (n2 : Int) : Option Bool :=
 (bif (ltZ n2 0) then
  some true
 else
  (bif (ltZ 2000 n2) then
   some true
  else
   some (ltZ 20000 (l1.length : Int)))).bind fun x =>
 clause_Right.j1 l1 n2 x
/-- lading/solve.Solve$1 -/
noncomputable def solve_Solve_1 [Fuel] (x1 : Int) (p2 : Int) : Option Bool :=
 bif (eqZ x1 0) then
  some true
 else
  ((z64 (-p2)).bind fun v3 =>
  bif (ltZ x1 v3) then
   some true
  else
   some (ltZ p2 x1))
/-- slices.IndexFunc[[]int,int] -/
noncomputable def slices_IndexFunc_int_int_v2.b1 [Fuel] (s1 : List Int) (p2 : Int) (v3 : Int) : Option ((Int) ⊕ (Int)) :=
 bif (ltZ v3 (s1.length : Int)) then
  ((idx s1 v3).bind fun v4 =>
  (solve_Solve_1 v4 p2).bind fun v'5 =>
  bif v'5 then
   some (.inr v3)
  else
   ((z64 (v3 + 1)).bind fun v6 =>
   some (.inl v6)))
 else
  some (.inr (-1))
noncomputable def slices_IndexFunc_int_int_v2 [Fuel] (s1 : List Int) (p2 : Int) : Option Int :=
 loopF (fun x => slices_IndexFunc_int_int_v2.b1 s1 p2 x) 0
/-- slices.ContainsFunc[[]int,int] -/
noncomputable def slices_ContainsFunc_int_int_v2 [Fuel] (s1 : List Int) (p2 : Int) : Option Bool :=
 (slices_IndexFunc_int_int_v2 s1 p2).bind fun v3 =>
 some (leZ 0 v3)
/-- slices.Clone[[]lading/api.Clause,lading/api.Clause] -/
noncomputable def slices_Clone_api_Clause_api_Clause [Fuel] (s1 : List GClause) : Option (List GClause) :=
 bothN s1 (
  some []) (
  (app? ([] : List GClause) s1).bind fun l2 =>
  some l2)
/-- slices.Grow[[]int,int] -/
noncomputable def slices_Grow_int_int [Fuel] (n1 : Int) : Option (List Int) :=
 bif (ltZ n1 0) then
  none
 else
  ((z64 ((0 : Int) - 0)).bind fun v2 =>
  (z64 (n1 - v2)).bind fun v3 =>
  bif (ltZ 0 v3) then
   ((need ((0 : Int) = 0 ∧ (0 : Int) = 0)).bind fun _4 =>
   (i1Need v3).bind fun _5 =>
   (cut (repT v3 (0 : Int)) 0 0).bind fun l6 =>
   some l6)
  else
   some [])
/-- slices.Concat[[]int,int] -/
noncomputable def slices_Concat_int_int.b1 [Fuel] (slices1 : List (List Int)) (size2 : Int) (v3 : Int) : Option ((Int × Int) ⊕ (Int)) :=
 bif (ltZ v3 (slices1.length : Int)) then
  ((idx slices1 v3).bind fun v4 =>
  (z64 (size2 + (v4.length : Int))).bind fun v5 =>
  bif (ltZ v5 0) then
   none
  else
   ((z64 (v3 + 1)).bind fun v6 =>
   some (.inl (v5, v6))))
 else
  some (.inr size2)
noncomputable def slices_Concat_int_int.b2 [Fuel] (slices1 : List (List Int)) (v9 : Int) (newslice10 : List Int) : Option ((Int × List Int) ⊕ (List Int)) :=
 bif (ltZ v9 (slices1.length : Int)) then
  ((idx slices1 v9).bind fun v11 =>
  (app? newslice10 v11).bind fun l12 =>
  (z64 (v9 + 1)).bind fun v13 =>
  some (.inl (v13, l12)))
 else
  some (.inr newslice10)
noncomputable def slices_Concat_int_int.j1 [Fuel] (slices1 : List (List Int)) (size7 : Int) : Option (List Int) :=
 (slices_Grow_int_int size7).bind fun i8 =>
 loopF (fun x => slices_Concat_int_int.b2 slices1 x.1 x.2) (0, i8)
noncomputable def slices_Concat_int_int [Fuel] (slices1 : List (List Int)) : Option (List Int) :=
 (loopF (fun x => slices_Concat_int_int.b1 slices1 x.1 x.2) (0, 0)).bind fun x =>
 slices_Concat_int_int.j1 slices1 x
/-- lading/clause.lit -/
noncomputable def clause_lit [Fuel] (x1 : Int) : Option Bool :=
 bif (!eqZ x1 0) then
  (bif (leZ (-2000) x1) then
   some (leZ x1 2000)
  else
   some false)
 else
  some false
/-- slices.Index[[]int,int] -/
noncomputable def slices_Index_int_int.b1 [Fuel] (s1 : List Int) (p2 : Int) (v3 : Int) : Option ((Int) ⊕ (Int)) :=
 bif (ltZ v3 (s1.length : Int)) then
  ((idx s1 v3).bind fun v4 =>
  bif (eqZ p2 v4) then
   some (.inr v3)
  else
   ((z64 (v3 + 1)).bind fun v5 =>
   some (.inl v5)))
 else
  some (.inr (-1))
noncomputable def slices_Index_int_int [Fuel] (s1 : List Int) (p2 : Int) : Option Int :=
 loopF (fun x => slices_Index_int_int.b1 s1 p2 x) 0
/-- slices.Contains[[]int,int] -/
noncomputable def slices_Contains_int_int [Fuel] (s1 : List Int) (p2 : Int) : Option Bool :=
 (slices_Index_int_int s1 p2).bind fun i3 =>
 some (leZ 0 i3)
/-- (*lading/clause.base).add -/
noncomputable def clause_base_add_v2.j1 [Fuel] (v4 : Int) (own5 : List Int) (v6 : List (Int × List Int)) (v7 : List (List Int)) (v8 : Int) (v11 : Bool) : Option ((Int × (List Int) × (List (Int × List Int)) × List (List Int)) ⊕ ((List (List Int)) × List (Int × List Int))) :=
 bif v11 then
  ((app? own5 ([v8] : List Int)).bind fun l12 =>
  (app? ((lookM v6 v8).getD []) ([(v7.length : Int)] : List Int)).bind fun l13 =>
  (need (v8 = v8)).bind fun _14 =>
  (z64 (v4 + 1)).bind fun v15 =>
  some (.inl (v15, l12, (putM v6 v8 l13), v7)))
 else
  ((z64 (v4 + 1)).bind fun v16 =>
  some (.inl (v16, own5, v6, v7)))
noncomputable def clause_base_add_v2.b1 [Fuel] (lits1 : List Int) (v4 : Int) (own5 : List Int) (v6 : List (Int × List Int)) (v7 : List (List Int)) : Option ((Int × (List Int) × (List (Int × List Int)) × List (List Int)) ⊕ ((List (List Int)) × List (Int × List Int))) :=
 bif (ltZ v4 (lits1.length : Int)) then
  ((idx lits1 v4).bind fun v8 =>
  ((clause_lit v8).bind fun l9 =>
  bif l9 then
   ((slices_Contains_int_int own5 v8).bind fun i10 =>
   some (!i10))
  else
   some false).bind fun x =>
  clause_base_add_v2.j1 v4 own5 v6 v7 v8 x)
 else
  (Option.map Sum.inr ((app? v7 ([own5] : List (List Int))).bind fun l17 =>
  some (l17, v6)))
noncomputable def clause_base_add_v2 [Fuel] (lits1 : List Int) (p2 : List (List Int)) (p3 : List (Int × List Int)) : Option ((List (List Int)) × List (Int × List Int)) :=
 loopF (fun x => clause_base_add_v2.b1 lits1 x.1 x.2.1 x.2.2.1 x.2.2.2) (0, [], p3, p2)
/-- lading/clause.load -/
noncomputable def clause_load.b1 [Fuel] (l1 : List GClause) (v2 : Int) (v3 : List (List Int)) (v4 : List (Int × List Int)) : Option ((Int × (List (List Int)) × List (Int × List Int)) ⊕ ((List (List Int)) × List (Int × List Int))) :=
 bif (ltZ v2 (l1.length : Int)) then
  ((idx l1 v2).bind fun v5 =>
  (clause_base_add_v2 v5.1 v3 v4).bind fun v6 =>
  (z64 (v2 + 1)).bind fun v7 =>
  some (.inl (v7, v6.1, v6.2)))
 else
  some (.inr (v3, v4))
noncomputable def clause_load [Fuel] (l1 : List GClause) : Option ((List (List Int)) × List (Int × List Int)) :=
 loopF (fun x => clause_load.b1 l1 x.1 x.2.1 x.2.2) (0, [], ([] : List (Int × List Int)))
/-- slices.Clone[[]int,int] -/
noncomputable def slices_Clone_int_int [Fuel] (s1 : List Int) : Option (List Int) :=
 bothN s1 (
  some []) (
  (app? ([] : List Int) s1).bind fun l2 =>
  some l2)
/-- (*lading/clause.base).close$1 -/
noncomputable def clause_base_close_1 [Fuel] (x1 : Int) : Option Bool :=
 (clause_lit x1).bind fun l2 =>
 some (!l2)
/-- slices.IndexFunc[[]int,int] -/
noncomputable def slices_IndexFunc_int_int_v3.b1 [Fuel] (s1 : List Int) (v2 : Int) : Option ((Int) ⊕ (Int)) :=
 bif (ltZ v2 (s1.length : Int)) then
  ((idx s1 v2).bind fun v3 =>
  (clause_base_close_1 v3).bind fun v'4 =>
  bif v'4 then
   some (.inr v2)
  else
   ((z64 (v2 + 1)).bind fun v5 =>
   some (.inl v5)))
 else
  some (.inr (-1))
noncomputable def slices_IndexFunc_int_int_v3 [Fuel] (s1 : List Int) : Option Int :=
 loopF (fun x => slices_IndexFunc_int_int_v3.b1 s1 x) 0
/-- slices.DeleteFunc[[]int,int] -/
noncomputable def slices_DeleteFunc_int_int.b1 [Fuel] (i4 : Int) (j5 : Int) (s6 : List Int) : Option ((Int × Int × List Int) ⊕ (List Int)) :=
 bif (ltZ j5 (s6.length : Int)) then
  ((idx s6 j5).bind fun _7 =>
  (idx s6 j5).bind fun v8 =>
  (clause_base_close_1 v8).bind fun v'9 =>
  bif (!v'9) then
   ((idx s6 i4).bind fun _10 =>
   (idx s6 i4).bind fun v11 =>
   (z64 (i4 + 1)).bind fun v12 =>
   (z64 (j5 + 1)).bind fun v13 =>
   some (.inl (v12, v13, (s6.set i4.toNat v8))))
  else
   ((z64 (j5 + 1)).bind fun v14 =>
   some (.inl (i4, v14, s6))))
 else
  (Option.map Sum.inr ((cut s6 i4 (s6.length : Int)).bind fun _15 =>
  (need (i4.toNat ≤ (s6.length : Int).toNat ∧ (s6.length : Int).toNat ≤ s6.length)).bind fun _16 =>
  (cut (clrT s6 i4 (s6.length : Int) 0) 0 i4).bind fun l17 =>
  some l17))
noncomputable def slices_DeleteFunc_int_int [Fuel] (s1 : List Int) : Option (List Int) :=
 (slices_IndexFunc_int_int_v3 s1).bind fun v2 =>
 bif (eqZ v2 (-1)) then
  some s1
 else
  ((z64 (v2 + 1)).bind fun v3 =>
  loopF (fun x => slices_DeleteFunc_int_int.b1 x.1 x.2.1 x.2.2) (v2, v3, s1))
/-- lading/clause.look -/
noncomputable def clause_look.b1 [Fuel] (c1 : List Int) (in2 : List Bool) (left3 : Int) (v4 : Int) : Option ((Int × Int) ⊕ (Int × Bool)) :=
 bif (ltZ v4 (c1.length : Int)) then
  ((idx c1 v4).bind fun v5 =>
  (z64 ((2000 : Int) - v5)).bind fun v6 =>
  (vNeed v6 4001).bind fun _7 =>
  (idx in2 v6).bind fun _8 =>
  (idx in2 v6).bind fun v9 =>
  bif v9 then
   ((z64 (v4 + 1)).bind fun v10 =>
   some (.inl (left3, v10)))
  else
   (bif (!eqZ left3 0) then
    some (.inr (0, false))
   else
    ((z64 (v4 + 1)).bind fun v11 =>
    some (.inl (v5, v11)))))
 else
  some (.inr (left3, true))
noncomputable def clause_look [Fuel] (c1 : List Int) (in2 : List Bool) : Option (Int × Bool) :=
 loopF (fun x => clause_look.b1 c1 in2 x.1 x.2) (0, 0)
/-- (*lading/clause.base).close -/
noncomputable def clause_base_close.b1 [Fuel] (b1 : (List (List Int)) × List (Int × List Int)) (v5 : Int) (v6 : List Int) : Option ((Int × List Int) ⊕ ((List Int) ⊕ (Bool × List Bool))) :=
 bif (ltZ v5 (b1.1.length : Int)) then
  ((idx b1.1 v5).bind fun v7 =>
  bif (eqZ (v7.length : Int) 0) then
   some (.inr (.inr (false, (List.replicate 4001 false))))
  else
   ((idx b1.1 v5).bind fun v8 =>
   bif (eqZ (v8.length : Int) 1) then
    ((idx b1.1 v5).bind fun v9 =>
    (idx v9 0).bind fun v10 =>
    (app? v6 ([v10] : List Int)).bind fun l11 =>
    (z64 (v5 + 1)).bind fun v12 =>
    some (.inl (v12, l11)))
   else
    ((z64 (v5 + 1)).bind fun v13 =>
    some (.inl (v13, v6)))))
 else
  some (.inr (.inl v6))
noncomputable def clause_base_close.j1 [Fuel] (v15 : List Bool) (v24 : Int) (v33 : Int) (v34 : List Int) (l37 : Int × Bool) (v38 : Bool) : Option ((Int × List Int) ⊕ (((List Bool) × List Int) ⊕ (Bool × List Bool))) :=
 bif v38 then
  some (.inr (.inr (false, (v15.set v24.toNat true))))
 else
  (bif l37.2 then
   ((app? v34 ([l37.1] : List Int)).bind fun l39 =>
   (z64 (v33 + 1)).bind fun v40 =>
   some (.inl (v40, l39)))
  else
   ((z64 (v33 + 1)).bind fun v41 =>
   some (.inl (v41, v34))))
noncomputable def clause_base_close.b2 [Fuel] (b1 : (List (List Int)) × List (Int × List Int)) (v15 : List Bool) (v24 : Int) (v32 : Int) (v33 : Int) (v34 : List Int) : Option ((Int × List Int) ⊕ (((List Bool) × List Int) ⊕ (Bool × List Bool))) :=
 bif (ltZ v33 (((lookM b1.2 v32).getD []).length : Int)) then
  ((idx ((lookM b1.2 v32).getD []) v33).bind fun v35 =>
  (idx b1.1 v35).bind fun v36 =>
  (clause_look v36 (v15.set v24.toNat true)).bind fun l37 =>
  (bif l37.2 then
   some (eqZ l37.1 0)
  else
   some false).bind fun x =>
  clause_base_close.j1 v15 v24 v33 v34 l37 x)
 else
  some (.inr (.inl ((v15.set v24.toNat true), v34)))
noncomputable def clause_base_close.b3 [Fuel] (b1 : (List (List Int)) × List (Int × List Int)) (v15 : List Bool) (v16 : List Int) : Option (((List Bool) × List Int) ⊕ (Bool × List Bool)) :=
 bif (ltZ 0 (v16.length : Int)) then
  ((idx v16 0).bind fun _17 =>
  (idx v16 0).bind fun v18 =>
  (cut v16 1 (v16.length : Int)).bind fun l19 =>
  (z64 ((2000 : Int) + v18)).bind fun v20 =>
  (vNeed v20 4001).bind fun _21 =>
  (idx v15 v20).bind fun _22 =>
  (idx v15 v20).bind fun v23 =>
  bif v23 then
   some (.inl (v15, l19))
  else
   ((z64 ((2000 : Int) + v18)).bind fun v24 =>
   (vNeed v24 4001).bind fun _25 =>
   (idx v15 v24).bind fun _26 =>
   (idx v15 v24).bind fun v27 =>
   (z64 ((2000 : Int) - v18)).bind fun v28 =>
   (vNeed v28 4001).bind fun _29 =>
   (idx (v15.set v24.toNat true) v28).bind fun _30 =>
   (idx (v15.set v24.toNat true) v28).bind fun v31 =>
   bif v31 then
    some (.inr (false, (v15.set v24.toNat true)))
   else
    ((z64 (-v18)).bind fun v32 =>
    loopF (fun x => clause_base_close.b2 b1 v15 v24 v32 x.1 x.2) (0, l19))))
 else
  some (.inr (true, v15))
noncomputable def clause_base_close.j2 [Fuel] (b1 : (List (List Int)) × List (Int × List Int)) (v14 : List Int) : Option (Bool × List Bool) :=
 loopF (fun x => clause_base_close.b3 b1 x.1 x.2) ((List.replicate 4001 false), v14)
noncomputable def clause_base_close [Fuel] (b1 : (List (List Int)) × List (Int × List Int)) (p2 : List Int) : Option (Bool × List Bool) :=
 (slices_Clone_int_int p2).bind fun i3 =>
 (slices_DeleteFunc_int_int i3).bind fun i4 =>
 (loopF (fun x => clause_base_close.b1 b1 x.1 x.2) (0, i4)).bind fun x => match x with
 | .inl x =>
  clause_base_close.j2 b1 x
 | .inr r => some r
/-- lading/clause.Propagate -/
noncomputable def clause_Propagate.b1 [Fuel] (c4 : Bool × List Bool) (v5 : Int) (out6 : List Int) : Option ((Int × List Int) ⊕ (Bool × List Int)) :=
 bif (ltZ v5 4001) then
  ((vNeed v5 4001).bind fun _7 =>
  (idx c4.2 v5).bind fun _8 =>
  (idx c4.2 v5).bind fun v9 =>
  bif v9 then
   ((z64 (v5 - 2000)).bind fun v10 =>
   (app? out6 ([v10] : List Int)).bind fun l11 =>
   (z64 (v5 + 1)).bind fun v12 =>
   some (.inl (v12, l11)))
  else
   ((z64 (v5 + 1)).bind fun v13 =>
   some (.inl (v13, out6))))
 else
  some (.inr (true, out6))
noncomputable def clause_Propagate [Fuel] (l1 : List GClause) (lits2 : List Int) : Option (Bool × List Int) :=
 (clause_load l1).bind fun l3 =>
 (clause_base_close l3 lits2).bind fun c4 =>
 bif (!c4.1) then
  some (false, [])
 else
  (loopF (fun x => clause_Propagate.b1 c4 x.1 x.2) (0, []))
/-- cmp.isNaN[int] -/
noncomputable def cmp_isNaN_int [Fuel] (x1 : Int) : Option Bool :=
 some (!eqZ x1 x1)
/-- cmp.Less[int] -/
noncomputable def cmp_Less_int [Fuel] (x1 : Int) (y2 : Int) : Option Bool :=
 (cmp_isNaN_int x1).bind fun i3 =>
 bif i3 then
  ((cmp_isNaN_int y2).bind fun i4 =>
  bif (!i4) then
   some true
  else
   some (ltZ x1 y2))
 else
  some (ltZ x1 y2)
/-- slices.isNaN[int] -/
noncomputable def slices_isNaN_int [Fuel] (x1 : Int) : Option Bool :=
 some (!eqZ x1 x1)
/-- slices.BinarySearch[[]int,int] -/
noncomputable def slices_BinarySearch_int_int.b1 [Fuel] (x1 : List Int) (target2 : Int) (i3 : Int) (j4 : Int) : Option ((Int × Int) ⊕ (Int)) :=
 bif (ltZ i3 j4) then
  ((z64 (i3 + j4)).bind fun v5 =>
  (shrZ .u64 (IntKind.u64.wrap v5) 1).bind fun v6 =>
  (idx x1 (IntKind.i64.wrap v6)).bind fun v7 =>
  (cmp_Less_int v7 target2).bind fun i8 =>
  bif i8 then
   ((z64 ((IntKind.i64.wrap v6) + 1)).bind fun v9 =>
   some (.inl (v9, j4)))
  else
   some (.inl (i3, (IntKind.i64.wrap v6))))
 else
  some (.inr i3)
noncomputable def slices_BinarySearch_int_int.j1 [Fuel] (x1 : List Int) (target2 : Int) (i10 : Int) : Option (Int × Bool) :=
 bif (ltZ i10 (x1.length : Int)) then
  ((idx x1 i10).bind fun v11 =>
  bif (eqZ v11 target2) then
   some (i10, true)
  else
   ((idx x1 i10).bind fun v12 =>
   (slices_isNaN_int v12).bind fun i13 =>
   bif i13 then
    ((slices_isNaN_int target2).bind fun i14 =>
    some (i10, i14))
   else
    some (i10, false)))
 else
  some (i10, false)
noncomputable def slices_BinarySearch_int_int [Fuel] (x1 : List Int) (target2 : Int) : Option (Int × Bool) :=
 (loopF (fun x => slices_BinarySearch_int_int.b1 x1 target2 x.1 x.2) (0, (x1.length : Int))).bind fun x =>
 slices_BinarySearch_int_int.j1 x1 target2 x
/-- lading/solve.open -/
noncomputable def solve_open.j1 [Fuel] (v3 : Int) (v9 : Bool) : Option ((Int) ⊕ (Int)) :=
 bif v9 then
  some (.inr v3)
 else
  ((z64 (v3 + 1)).bind fun v10 =>
  some (.inl v10))
noncomputable def solve_open.b1 [Fuel] (closure1 : List Int) (n2 : Int) (v3 : Int) : Option ((Int) ⊕ (Int)) :=
 bif (ltZ v3 n2) then
  ((z64 (v3 + 1)).bind fun v4 =>
  (slices_BinarySearch_int_int closure1 v4).bind fun i5 =>
  (z64 (-v3)).bind fun v6 =>
  (z64 (v6 - 1)).bind fun v7 =>
  (slices_BinarySearch_int_int closure1 v7).bind fun i8 =>
  (bif (!i5.2) then
   some (!i8.2)
  else
   some false).bind fun x =>
  solve_open.j1 v3 x)
 else
  some (.inr n2)
noncomputable def solve_open [Fuel] (closure1 : List Int) (n2 : Int) : Option Int :=
 loopF (fun x => solve_open.b1 closure1 n2 x) 0
/-- lading/solve.Solve -/
noncomputable def solve_Solve.b1 [Fuel] (v10 : List Int) (v13 : Int) (v14 : List Int) : Option ((Int × List Int) ⊕ (List Int)) :=
 bif (ltZ v13 (v10.length : Int)) then
  ((idx v10 v13).bind fun _15 =>
  (idx v10 v13).bind fun v16 =>
  (z64 (-v16)).bind fun v17 =>
  (app? v14 ([v17] : List Int)).bind fun l18 =>
  (z64 (v13 + 1)).bind fun v19 =>
  some (.inl (v19, l18)))
 else
  some (.inr v14)
noncomputable def solve_Solve.j1 [Fuel] (v8 : List GClause) (v9 : List (List Int)) (v10 : List Int) (v20 : List Int) : Option (((List GClause) × (List (List Int)) × List Int) ⊕ (((List GClause) × (List (List Int)) × List Int) ⊕ ((List Bool) × (List (List Int)) × Int))) :=
 (app? v9 ([v20] : List (List Int))).bind fun l21 =>
 (app? v8 ([(v20, 0, 0, 0)] : List GClause)).bind fun l22 =>
 bif (eqZ (v10.length : Int) 0) then
  some (.inr (.inr ([], l21, 26)))
 else
  ((z64 ((v10.length : Int) - 1)).bind fun v23 =>
  (cut v10 0 v23).bind fun l24 =>
  some (.inr (.inl (l22, l21, l24))))
noncomputable def solve_Solve.b2 [Fuel] (p2 : Int) (p12 : Bool × List Int) (v33 : Int) (v34 : List Bool) : Option ((Int × List Bool) ⊕ (((List GClause) × (List (List Int)) × List Int) ⊕ ((List Bool) × (List (List Int)) × Int))) :=
 bif (ltZ v33 p2) then
  ((z64 (v33 + 1)).bind fun v35 =>
  (slices_BinarySearch_int_int p12.2 v35).bind fun i36 =>
  (idx v34 v33).bind fun _37 =>
  (idx v34 v33).bind fun v38 =>
  (z64 (v33 + 1)).bind fun v39 =>
  some (.inl (v39, (v34.set v33.toNat i36.2))))
 else
  some (.inr (.inr (v34, [], 0)))
noncomputable def solve_Solve.j2 [Fuel] (p2 : Int) (p12 : Bool × List Int) (v25 : List GClause) (v26 : List (List Int)) (v27 : List Int) : Option (((List GClause) × (List (List Int)) × List Int) ⊕ ((List Bool) × (List (List Int)) × Int)) :=
 (solve_open p12.2 p2).bind fun o28 =>
 bif (ltZ o28 p2) then
  ((z64 (-o28)).bind fun v29 =>
  (z64 (v29 - 1)).bind fun v30 =>
  (app? v27 ([v30] : List Int)).bind fun l31 =>
  some (.inl (v25, v26, l31)))
 else
  ((msNeed p2 p2).bind fun _32 =>
  loopF (fun x => solve_Solve.b2 p2 p12 x.1 x.2) (0, (repT p2 (false : Bool))))
noncomputable def solve_Solve.b3 [Fuel] (p2 : Int) (p3 : List Int) (v8 : List GClause) (v9 : List (List Int)) (v10 : List Int) : Option (((List GClause) × (List (List Int)) × List Int) ⊕ ((List Bool) × (List (List Int)) × Int)) :=
 (slices_Concat_int_int ([p3, v10] : List (List Int))).bind fun i11 =>
 (clause_Propagate v8 i11).bind fun p12 =>
 (bif (!p12.1) then
  (bif (eqZ (v9.length : Int) 4000) then
   some (.inr (.inr ([], [], 6)))
  else
   ((loopF (fun x => solve_Solve.b1 v10 x.1 x.2) (0, [])).bind fun x =>
   solve_Solve.j1 v8 v9 v10 x))
 else
  some (.inl (v8, v9, v10))).bind fun x => match x with
 | .inl x =>
  solve_Solve.j2 p2 p12 x.1 x.2.1 x.2.2
 | .inr r => some r
noncomputable def solve_Solve.j3 [Fuel] (l1 : List GClause) (p2 : Int) (p3 : List Int) (v6 : Bool) : Option ((List Bool) × (List (List Int)) × Int) :=
 bif v6 then
  some ([], [], 1)
 else
  ((slices_Clone_api_Clause_api_Clause l1).bind fun c7 =>
  loopF (fun x => solve_Solve.b3 p2 p3 x.1 x.2.1 x.2.2) (c7, [], []))
noncomputable def solve_Solve [Fuel] (l1 : List GClause) (p2 : Int) (p3 : List Int) : Option ((List Bool) × (List (List Int)) × Int) :=
 ((clause_Right l1 p2).bind fun r4 =>
 bif (!r4) then
  some true
 else
  ((slices_ContainsFunc_int_int_v2 p3 p2).bind fun v5 =>
  some v5)).bind fun x =>
 solve_Solve.j3 l1 p2 p3 x
/-- slices.Delete[[]int,int] -/
noncomputable def slices_Delete_int [Fuel] (i j : Int) (l : List Int) : Option (List Int) := delF l i j
/-- lading/refuse.without -/
noncomputable def refuse_without [Fuel] (core1 : List Int) (at2 : Int) : Option (List Int) :=
 (slices_Clone_int_int core1).bind fun i3 =>
 (z64 (at2 + 1)).bind fun v4 =>
 (slices_Delete_int at2 v4 i3).bind fun i5 =>
 some i5
/-- lading/refuse.pick -/
noncomputable def refuse_pick_v2.b1 [Fuel] (l1 : List GClause) (core2 : List Int) (v3 : Int) (out4 : List GClause) : Option ((Int × List GClause) ⊕ (List GClause)) :=
 bif (ltZ v3 (core2.length : Int)) then
  ((idx core2 v3).bind fun v5 =>
  (idx l1 v5).bind fun v6 =>
  (app? out4 ([v6] : List GClause)).bind fun l7 =>
  (z64 (v3 + 1)).bind fun v8 =>
  some (.inl (v8, l7)))
 else
  some (.inr out4)
noncomputable def refuse_pick_v2 [Fuel] (l1 : List GClause) (core2 : List Int) : Option (List GClause) :=
 loopF (fun x => refuse_pick_v2.b1 l1 core2 x.1 x.2) (0, [])
/-- lading/solve.Solve -/
noncomputable def solve_Solve_v2.b1 [Fuel] (v10 : List Int) (v13 : Int) (v14 : List Int) : Option ((Int × List Int) ⊕ (List Int)) :=
 bif (ltZ v13 (v10.length : Int)) then
  ((idx v10 v13).bind fun _15 =>
  (idx v10 v13).bind fun v16 =>
  (z64 (-v16)).bind fun v17 =>
  (app? v14 ([v17] : List Int)).bind fun l18 =>
  (z64 (v13 + 1)).bind fun v19 =>
  some (.inl (v19, l18)))
 else
  some (.inr v14)
noncomputable def solve_Solve_v2.j1 [Fuel] (v8 : List GClause) (v9 : List (List Int)) (v10 : List Int) (v20 : List Int) : Option (((List GClause) × (List (List Int)) × List Int) ⊕ (((List GClause) × (List (List Int)) × List Int) ⊕ ((List (List Int)) × Int × List Bool))) :=
 (app? v9 ([v20] : List (List Int))).bind fun l21 =>
 (app? v8 ([(v20, 0, 0, 0)] : List GClause)).bind fun l22 =>
 bif (eqZ (v10.length : Int) 0) then
  some (.inr (.inr (l21, 26, [])))
 else
  ((z64 ((v10.length : Int) - 1)).bind fun v23 =>
  (cut v10 0 v23).bind fun l24 =>
  some (.inr (.inl (l22, l21, l24))))
noncomputable def solve_Solve_v2.b2 [Fuel] (p2 : Int) (p12 : Bool × List Int) (v33 : Int) (v34 : List Bool) : Option ((Int × List Bool) ⊕ (((List GClause) × (List (List Int)) × List Int) ⊕ ((List (List Int)) × Int × List Bool))) :=
 bif (ltZ v33 p2) then
  ((z64 (v33 + 1)).bind fun v35 =>
  (slices_BinarySearch_int_int p12.2 v35).bind fun i36 =>
  (idx v34 v33).bind fun _37 =>
  (idx v34 v33).bind fun v38 =>
  (z64 (v33 + 1)).bind fun v39 =>
  some (.inl (v39, (v34.set v33.toNat i36.2))))
 else
  some (.inr (.inr ([], 0, v34)))
noncomputable def solve_Solve_v2.j2 [Fuel] (p2 : Int) (p12 : Bool × List Int) (v25 : List GClause) (v26 : List (List Int)) (v27 : List Int) : Option (((List GClause) × (List (List Int)) × List Int) ⊕ ((List (List Int)) × Int × List Bool)) :=
 (solve_open p12.2 p2).bind fun o28 =>
 bif (ltZ o28 p2) then
  ((z64 (-o28)).bind fun v29 =>
  (z64 (v29 - 1)).bind fun v30 =>
  (app? v27 ([v30] : List Int)).bind fun l31 =>
  some (.inl (v25, v26, l31)))
 else
  ((msNeed p2 p2).bind fun _32 =>
  loopF (fun x => solve_Solve_v2.b2 p2 p12 x.1 x.2) (0, (repT p2 (false : Bool))))
noncomputable def solve_Solve_v2.b3 [Fuel] (p2 : Int) (p3 : List Int) (v8 : List GClause) (v9 : List (List Int)) (v10 : List Int) : Option (((List GClause) × (List (List Int)) × List Int) ⊕ ((List (List Int)) × Int × List Bool)) :=
 (slices_Concat_int_int ([p3, v10] : List (List Int))).bind fun i11 =>
 (clause_Propagate v8 i11).bind fun p12 =>
 (bif (!p12.1) then
  (bif (eqZ (v9.length : Int) 4000) then
   some (.inr (.inr ([], 6, [])))
  else
   ((loopF (fun x => solve_Solve_v2.b1 v10 x.1 x.2) (0, [])).bind fun x =>
   solve_Solve_v2.j1 v8 v9 v10 x))
 else
  some (.inl (v8, v9, v10))).bind fun x => match x with
 | .inl x =>
  solve_Solve_v2.j2 p2 p12 x.1 x.2.1 x.2.2
 | .inr r => some r
noncomputable def solve_Solve_v2.j3 [Fuel] (l1 : List GClause) (p2 : Int) (p3 : List Int) (v6 : Bool) : Option ((List (List Int)) × Int × List Bool) :=
 bif v6 then
  some ([], 1, [])
 else
  ((slices_Clone_api_Clause_api_Clause l1).bind fun c7 =>
  loopF (fun x => solve_Solve_v2.b3 p2 p3 x.1 x.2.1 x.2.2) (c7, [], []))
noncomputable def solve_Solve_v2 [Fuel] (l1 : List GClause) (p2 : Int) (p3 : List Int) : Option ((List (List Int)) × Int × List Bool) :=
 ((clause_Right l1 p2).bind fun r4 =>
 bif (!r4) then
  some true
 else
  ((slices_ContainsFunc_int_int_v2 p3 p2).bind fun v5 =>
  some v5)).bind fun x =>
 solve_Solve_v2.j3 l1 p2 p3 x
/-- lading/refuse.without -/
noncomputable def refuse_without_v2 [Fuel] (core1 : List Int) (at2 : Int) : Option (List Int) :=
 (slices_Clone_int_int core1).bind fun i3 =>
 (z64 (at2 + 1)).bind fun v4 =>
 (slices_Delete_int at2 v4 i3).bind fun i5 =>
 some i5
/-- lading/refuse.show -/
noncomputable def refuse_show.b1 [Fuel] (l1 : List GClause) (n2 : Int) (r3 : List Int) (v6 : Int) (r7 : List Int) (r8 : List (List Int)) (v9 : List (List Bool)) : Option ((Int × (List Int) × (List (List Int)) × List (List Bool)) ⊕ (GRefusal × Int)) :=
 bif (ltZ v6 (r3.length : Int)) then
  ((refuse_without_v2 r7 v6).bind fun v10 =>
  (refuse_pick_v2 l1 v10).bind fun v11 =>
  (solve_Solve v11 n2 []).bind fun s12 =>
  bif (!eqZ s12.2.2 0) then
   some (.inr (([], [], []), s12.2.2))
  else
   ((app? v9 ([s12.1] : List (List Bool))).bind fun l13 =>
   (z64 (v6 + 1)).bind fun v14 =>
   some (.inl (v14, r7, r8, l13))))
 else
  some (.inr ((r7, r8, v9), 0))
noncomputable def refuse_show [Fuel] (l1 : List GClause) (n2 : Int) (r3 : List Int) : Option (GRefusal × Int) :=
 (refuse_pick_v2 l1 r3).bind fun v4 =>
 (solve_Solve_v2 v4 n2 []).bind fun v5 =>
 bif (!eqZ v5.2.1 26) then
  some (([], [], []), v5.2.1)
 else
  (loopF (fun x => refuse_show.b1 l1 n2 r3 x.1 x.2.1 x.2.2.1 x.2.2.2) (0, r3, v5.1, []))
/-- lading/refuse.Core -/
noncomputable def refuse_Core.b1 [Fuel] (l1 : List GClause) (v5 : Int) (v6 : List Int) : Option ((Int × List Int) ⊕ (List Int)) :=
 bif (ltZ v5 (l1.length : Int)) then
  ((app? v6 ([v5] : List Int)).bind fun l7 =>
  (z64 (v5 + 1)).bind fun v8 =>
  some (.inl (v8, l7)))
 else
  some (.inr v6)
noncomputable def refuse_Core.b2 [Fuel] (l1 : List GClause) (p2 : Int) (v11 : Int) (v12 : List Int) : Option ((Int × List Int) ⊕ ((List Int) ⊕ (GRefusal × Int))) :=
 bif (leZ 0 v11) then
  ((refuse_without v12 v11).bind fun w13 =>
  (refuse_pick_v2 l1 w13).bind fun v14 =>
  (solve_Solve v14 p2 []).bind fun s15 =>
  bif (eqZ s15.2.2 26) then
   ((z64 (v11 - 1)).bind fun v16 =>
   some (.inl (v16, w13)))
  else
   (bif (eqZ s15.2.2 0) then
    ((z64 (v11 - 1)).bind fun v17 =>
    some (.inl (v17, v12)))
   else
    some (.inr (.inr (([], [], []), s15.2.2)))))
 else
  some (.inr (.inl v12))
noncomputable def refuse_Core.j1 [Fuel] (l1 : List GClause) (p2 : Int) (v18 : List Int) : Option (GRefusal × Int) :=
 (refuse_show l1 p2 v18).bind fun s19 =>
 some (s19.1, s19.2)
noncomputable def refuse_Core.j2 [Fuel] (l1 : List GClause) (p2 : Int) (v9 : List Int) : Option (GRefusal × Int) :=
 ((z64 ((l1.length : Int) - 1)).bind fun v10 =>
 loopF (fun x => refuse_Core.b2 l1 p2 x.1 x.2) (v10, v9)).bind fun x => match x with
 | .inl x =>
  refuse_Core.j1 l1 p2 x
 | .inr r => some r
noncomputable def refuse_Core [Fuel] (l1 : List GClause) (p2 : Int) : Option (GRefusal × Int) :=
 (clause_Right l1 p2).bind fun r3 =>
 bif (!r3) then
  some (([], [], []), 1)
 else
  ((solve_Solve l1 p2 []).bind fun s4 =>
  bif (eqZ s4.2.2 0) then
   some (([], [], []), 4)
  else
   (bif (eqZ s4.2.2 26) then
    ((loopF (fun x => refuse_Core.b1 l1 x.1 x.2) (0, [])).bind fun x =>
    refuse_Core.j2 l1 p2 x)
   else
    some (([], [], []), s4.2.2)))
/-- lading/ladingref26.Same -/
noncomputable def ladingref26_Same.b1 [Fuel] (a1 : List Int) (b2 : List Int) (i3 : Int) : Option ((Int) ⊕ (Bool)) :=
 bif (ltZ i3 (a1.length : Int)) then
  ((idx a1 i3).bind fun v4 =>
  (idx b2 i3).bind fun v5 =>
  bif (!eqZ v4 v5) then
   some (.inr false)
  else
   ((z64 (i3 + 1)).bind fun v6 =>
   some (.inl v6)))
 else
  some (.inr true)
noncomputable def ladingref26_Same [Fuel] (a1 : List Int) (b2 : List Int) : Option Bool :=
 bif (!eqZ (a1.length : Int) (b2.length : Int)) then
  some false
 else
  (loopF (fun x => ladingref26_Same.b1 a1 b2 x) 0)
/-- slices.IndexFunc[[]int,int] -/
noncomputable def slices_IndexFunc_int_int_v4.b1 [Fuel] (s1 : List Int) (v2 : Int) : Option ((Int) ⊕ (Int)) :=
 bif (ltZ v2 (s1.length : Int)) then
  ((idx s1 v2).bind fun v3 =>
  (clause_lit v3).bind fun l4 =>
  bif l4 then
   some (.inr v2)
  else
   ((z64 (v2 + 1)).bind fun v5 =>
   some (.inl v5)))
 else
  some (.inr (-1))
noncomputable def slices_IndexFunc_int_int_v4 [Fuel] (s1 : List Int) : Option Int :=
 loopF (fun x => slices_IndexFunc_int_int_v4.b1 s1 x) 0
/-- slices.ContainsFunc[[]int,int] -/
noncomputable def slices_ContainsFunc_int_int_v3 [Fuel] (s1 : List Int) : Option Bool :=
 (slices_IndexFunc_int_int_v4 s1).bind fun v2 =>
 some (leZ 0 v2)
/-- (*lading/clause.base).follows -/
noncomputable def clause_base_follows.b1 [Fuel] (lits2 : List Int) (v3 : Int) (not4 : List Int) : Option ((Int × List Int) ⊕ (List Int)) :=
 bif (ltZ v3 (lits2.length : Int)) then
  ((idx lits2 v3).bind fun v5 =>
  (clause_lit v5).bind fun l6 =>
  bif l6 then
   ((z64 (-v5)).bind fun v7 =>
   (app? not4 ([v7] : List Int)).bind fun l8 =>
   (z64 (v3 + 1)).bind fun v9 =>
   some (.inl (v9, l8)))
  else
   ((z64 (v3 + 1)).bind fun v10 =>
   some (.inl (v10, not4))))
 else
  some (.inr not4)
noncomputable def clause_base_follows.j1 [Fuel] (b1 : (List (List Int)) × List (Int × List Int)) (not11 : List Int) : Option Bool :=
 (clause_base_close b1 not11).bind fun c12 =>
 some (!c12.1)
noncomputable def clause_base_follows [Fuel] (b1 : (List (List Int)) × List (Int × List Int)) (lits2 : List Int) : Option Bool :=
 (loopF (fun x => clause_base_follows.b1 lits2 x.1 x.2) (0, [])).bind fun x =>
 clause_base_follows.j1 b1 x
/-- lading/clause.Proof -/
noncomputable def clause_Proof.b1 [Fuel] (learnt2 : List (List Int)) (v8 : Int) (v9 : List (List Int)) (v10 : List (Int × List Int)) : Option ((Int × (List (List Int)) × List (Int × List Int)) ⊕ (Int)) :=
 bif (ltZ v8 (learnt2.length : Int)) then
  ((idx learnt2 v8).bind fun v11 =>
  (clause_base_follows (v9, v10) v11).bind fun f12 =>
  bif (!f12) then
   some (.inr 19)
  else
   ((clause_base_add_v2 v11 v9 v10).bind fun v13 =>
   (z64 (v8 + 1)).bind fun v14 =>
   some (.inl (v14, v13.1, v13.2))))
 else
  some (.inr 0)
noncomputable def clause_Proof.j1 [Fuel] (l1 : List GClause) (learnt2 : List (List Int)) (v6 : Bool) : Option Int :=
 bif v6 then
  some 19
 else
  ((clause_load l1).bind fun l7 =>
  loopF (fun x => clause_Proof.b1 learnt2 x.1 x.2.1 x.2.2) (0, l7.1, l7.2))
noncomputable def clause_Proof [Fuel] (l1 : List GClause) (learnt2 : List (List Int)) : Option Int :=
 bif (ltZ 4000 (learnt2.length : Int)) then
  some 6
 else
  ((bif (eqZ (learnt2.length : Int) 0) then
   some true
  else
   ((z64 ((learnt2.length : Int) - 1)).bind fun v3 =>
   (idx learnt2 v3).bind fun v4 =>
   (slices_ContainsFunc_int_int_v3 v4).bind fun v5 =>
   some v5)).bind fun x =>
  clause_Proof.j1 l1 learnt2 x)
/-- lading/clause.Holds$1$1 -/
noncomputable def clause_Holds_1_1 [Fuel] (x1 : Int) (p2 : Int) (p3 : List Bool) : Option Bool :=
 bif (ltZ 0 x1) then
  (bif (leZ x1 p2) then
   ((z64 (x1 - 1)).bind fun v4 =>
   (idx p3 v4).bind fun v5 =>
   bif v5 then
    some true
   else
    (bif (ltZ x1 0) then
     ((z64 (-p2)).bind fun v6 =>
     bif (leZ v6 x1) then
      ((z64 (-x1)).bind fun v7 =>
      (z64 (v7 - 1)).bind fun v8 =>
      (idx p3 v8).bind fun v9 =>
      some (!v9))
     else
      some false)
    else
     some false))
  else
   (bif (ltZ x1 0) then
    ((z64 (-p2)).bind fun v10 =>
    bif (leZ v10 x1) then
     ((z64 (-x1)).bind fun v11 =>
     (z64 (v11 - 1)).bind fun v12 =>
     (idx p3 v12).bind fun v13 =>
     some (!v13))
    else
     some false)
   else
    some false))
 else
  (bif (ltZ x1 0) then
   ((z64 (-p2)).bind fun v14 =>
   bif (leZ v14 x1) then
    ((z64 (-x1)).bind fun v15 =>
    (z64 (v15 - 1)).bind fun v16 =>
    (idx p3 v16).bind fun v17 =>
    some (!v17))
   else
    some false)
  else
   some false)
/-- slices.IndexFunc[[]int,int] -/
noncomputable def slices_IndexFunc_int_int_v5.b1 [Fuel] (s1 : List Int) (p2 : Int) (p3 : List Bool) (v4 : Int) : Option ((Int) ⊕ (Int)) :=
 bif (ltZ v4 (s1.length : Int)) then
  ((idx s1 v4).bind fun v5 =>
  (clause_Holds_1_1 v5 p2 p3).bind fun v'6 =>
  bif v'6 then
   some (.inr v4)
  else
   ((z64 (v4 + 1)).bind fun v7 =>
   some (.inl v7)))
 else
  some (.inr (-1))
noncomputable def slices_IndexFunc_int_int_v5 [Fuel] (s1 : List Int) (p2 : Int) (p3 : List Bool) : Option Int :=
 loopF (fun x => slices_IndexFunc_int_int_v5.b1 s1 p2 p3 x) 0
/-- slices.ContainsFunc[[]int,int] -/
noncomputable def slices_ContainsFunc_int_int_v4 [Fuel] (s1 : List Int) (p2 : Int) (p3 : List Bool) : Option Bool :=
 (slices_IndexFunc_int_int_v5 s1 p2 p3).bind fun v4 =>
 some (leZ 0 v4)
/-- lading/clause.Holds$1 -/
noncomputable def clause_Holds_1 [Fuel] (c1 : GClause) (p2 : Int) (p3 : List Bool) : Option Bool :=
 (slices_ContainsFunc_int_int_v4 c1.1 p2 p3).bind fun v4 =>
 some (!v4)
/-- slices.IndexFunc[[]lading/api.Clause,lading/api.Clause] -/
noncomputable def slices_IndexFunc_api_Clause_api_Clause_v2.b1 [Fuel] (s1 : List GClause) (p2 : Int) (p3 : List Bool) (v4 : Int) : Option ((Int) ⊕ (Int)) :=
 bif (ltZ v4 (s1.length : Int)) then
  ((idx s1 v4).bind fun v5 =>
  (clause_Holds_1 v5 p2 p3).bind fun v'6 =>
  bif v'6 then
   some (.inr v4)
  else
   ((z64 (v4 + 1)).bind fun v7 =>
   some (.inl v7)))
 else
  some (.inr (-1))
noncomputable def slices_IndexFunc_api_Clause_api_Clause_v2 [Fuel] (s1 : List GClause) (p2 : Int) (p3 : List Bool) : Option Int :=
 loopF (fun x => slices_IndexFunc_api_Clause_api_Clause_v2.b1 s1 p2 p3 x) 0
/-- slices.ContainsFunc[[]lading/api.Clause,lading/api.Clause] -/
noncomputable def slices_ContainsFunc_api_Clause_api_Clause_v2 [Fuel] (s1 : List GClause) (p2 : Int) (p3 : List Bool) : Option Bool :=
 (slices_IndexFunc_api_Clause_api_Clause_v2 s1 p2 p3).bind fun v4 =>
 some (leZ 0 v4)
/-- lading/clause.Holds -/
noncomputable def clause_Holds [Fuel] (l1 : List GClause) (model2 : List Bool) : Option Bool :=
 (slices_ContainsFunc_api_Clause_api_Clause_v2 l1 (min (model2.length : Int) 2000) model2).bind fun v3 =>
 some (!v3)
/-- lading/refuse.Check -/
noncomputable def refuse_Check.j1 [Fuel] (v6 : Int) (v7 : Int) (v8 : Bool) : Option ((Int × Int) ⊕ ((Unit) ⊕ (Int))) :=
 bif v8 then
  some (.inr (.inr 1))
 else
  ((z64 (v6 + 1)).bind fun v9 =>
  some (.inl (v7, v9)))
noncomputable def refuse_Check.b1 [Fuel] (l1 : List GClause) (p3 : GRefusal) (v5 : Int) (v6 : Int) : Option ((Int × Int) ⊕ ((Unit) ⊕ (Int))) :=
 bif (ltZ v6 (p3.1.length : Int)) then
  ((idx p3.1 v6).bind fun v7 =>
  (bif (leZ v7 v5) then
   some true
  else
   some (leZ (l1.length : Int) v7)).bind fun x =>
  refuse_Check.j1 v6 v7 x)
 else
  some (.inr (.inl ()))
noncomputable def refuse_Check.j2 [Fuel] (v13 : Int) (v18 : Bool) : Option ((Int) ⊕ (Int)) :=
 bif v18 then
  some (.inr 19)
 else
  ((z64 (v13 + 1)).bind fun v19 =>
  some (.inl v19))
noncomputable def refuse_Check.b2 [Fuel] (l1 : List GClause) (p2 : Int) (p3 : GRefusal) (v13 : Int) : Option ((Int) ⊕ (Int)) :=
 bif (ltZ v13 (p3.2.2.length : Int)) then
  ((idx p3.2.2 v13).bind fun v14 =>
  (bif (!eqZ (v14.length : Int) p2) then
   some true
  else
   ((refuse_without_v2 p3.1 v13).bind fun v15 =>
   (refuse_pick_v2 l1 v15).bind fun v16 =>
   (clause_Holds v16 v14).bind fun h17 =>
   some (!h17))).bind fun x =>
  refuse_Check.j2 v13 x)
 else
  some (.inr 0)
noncomputable def refuse_Check.j3 [Fuel] (l1 : List GClause) (p2 : Int) (p3 : GRefusal) (v12 : Bool) : Option Int :=
 bif v12 then
  some 19
 else
  (loopF (fun x => refuse_Check.b2 l1 p2 p3 x) 0)
noncomputable def refuse_Check.j4 [Fuel] (l1 : List GClause) (p2 : Int) (p3 : GRefusal) : Option Int :=
 ((refuse_pick_v2 l1 p3.1).bind fun v10 =>
 (clause_Proof v10 p3.2.1).bind fun p11 =>
 bif (!eqZ p11 0) then
  some true
 else
  some (!eqZ (p3.2.2.length : Int) (p3.1.length : Int))).bind fun x =>
 refuse_Check.j3 l1 p2 p3 x
noncomputable def refuse_Check [Fuel] (l1 : List GClause) (p2 : Int) (p3 : GRefusal) : Option Int :=
 (clause_Right l1 p2).bind fun r4 =>
 bif (!r4) then
  some 1
 else
  ((loopF (fun x => refuse_Check.b1 l1 p3 x.1 x.2) ((-1), 0)).bind fun x => match x with
  | .inl x =>
   refuse_Check.j4 l1 p2 p3
  | .inr r => some r)
/-- slices.Sort[[]int,int] -/
noncomputable def slices_Sort_int [Fuel] (l : List Int) : Option (List Int) := sortF l
/-- slices.Compact[[]int,int] -/
noncomputable def slices_Compact_int [Fuel] (l : List Int) : Option (List Int) := compF l
/-- lading/refuse.Facts -/
noncomputable def refuse_Facts.j1 [Fuel] (l1 : List GClause) (v3 : Int) (out4 : List Int) (v5 : Int) (v7 : Bool) : Option ((Int × List Int) ⊕ (List Int)) :=
 bif v7 then
  ((idx l1 v5).bind fun v8 =>
  (app? out4 ([v8.2.2.1] : List Int)).bind fun l9 =>
  (z64 (v3 + 1)).bind fun v10 =>
  some (.inl (v10, l9)))
 else
  ((z64 (v3 + 1)).bind fun v11 =>
  some (.inl (v11, out4)))
noncomputable def refuse_Facts.b1 [Fuel] (l1 : List GClause) (core2 : List Int) (v3 : Int) (out4 : List Int) : Option ((Int × List Int) ⊕ (List Int)) :=
 bif (ltZ v3 (core2.length : Int)) then
  ((idx core2 v3).bind fun v5 =>
  (bif (leZ 0 v5) then
   (bif (ltZ v5 (l1.length : Int)) then
    ((idx l1 v5).bind fun v6 =>
    some (leZ 0 v6.2.2.1))
   else
    some false)
  else
   some false).bind fun x =>
  refuse_Facts.j1 l1 v3 out4 v5 x)
 else
  some (.inr out4)
noncomputable def refuse_Facts.j2 [Fuel] (out12 : List Int) : Option (List Int) :=
 (slices_Sort_int out12).bind fun i13 =>
 (slices_Compact_int i13).bind fun i14 =>
 some i14
noncomputable def refuse_Facts [Fuel] (l1 : List GClause) (core2 : List Int) : Option (List Int) :=
 (loopF (fun x => refuse_Facts.b1 l1 core2 x.1 x.2) (0, [])).bind fun x =>
 refuse_Facts.j2 x
/-- lading/ladinglaw30.small -/
noncomputable def ladinglaw30_small [Fuel] : Option Bool :=
 (ladinglaw30_of 5 ([1] : List Int)).bind fun o1 =>
 (ladinglaw30_of 5 ([2] : List Int)).bind fun o2 =>
 (ladinglaw30_of (-1) ([(-1), 3] : List Int)).bind fun o3 =>
 (ladinglaw30_of 5 ([(-3)] : List Int)).bind fun o4 =>
 (refuse_Core ([o1, o2, o3, o4] : List GClause) 3).bind fun c5 =>
 (ladinglaw30_of 0 ([1] : List Int)).bind fun o6 =>
 (ladinglaw30_of 0 ([(-1), 2] : List Int)).bind fun o7 =>
 (refuse_Core ([o6, o7] : List GClause) 2).bind fun c8 =>
 bif (eqZ c5.2 0) then
  (bif (eqZ c8.2 4) then
   ((ladingref26_Same c5.1.1 ([0, 2, 3] : List Int)).bind fun s9 =>
   bif s9 then
    ((refuse_Check ([o1, o2, o3, o4] : List GClause) 3 c5.1).bind fun c10 =>
    bif (eqZ c10 0) then
     ((refuse_Facts ([o1, o2, o3, o4] : List GClause) c5.1.1).bind fun f11 =>
     (ladingref26_Same f11 ([5] : List Int)).bind fun s12 =>
     some s12)
    else
     some false)
   else
    some false)
  else
   some false)
 else
  some false
/-- lading/ladinglaw30.light -/
noncomputable def ladinglaw30_light.j1 [Fuel] (l1 : List GClause) (n2 : Int) (i3 : Int) (v4 : Bool) : Option ((Int) ⊕ (Bool)) :=
 bif v4 then
  ((idx l1 i3).bind fun v5 =>
  bif (ltZ 6 (v5.1.length : Int)) then
   some (.inr false)
  else
   ((z64 (i3 + 1)).bind fun v6 =>
   some (.inl v6)))
 else
  some (.inr (leZ (l1.length : Int) n2))
noncomputable def ladinglaw30_light.b1 [Fuel] (l1 : List GClause) (n2 : Int) (i3 : Int) : Option ((Int) ⊕ (Bool)) :=
 (bif (ltZ i3 (l1.length : Int)) then
  some (leZ i3 n2)
 else
  some false).bind fun x =>
 ladinglaw30_light.j1 l1 n2 i3 x
noncomputable def ladinglaw30_light [Fuel] (l1 : List GClause) (n2 : Int) : Option Bool :=
 loopF (fun x => ladinglaw30_light.b1 l1 n2 x) 0
/-- lading/ladinglaw30.lists -/
noncomputable def ladinglaw30_lists.j1 [Fuel] (l1 : List (List Int)) (n2 : Int) (i3 : Int) (v4 : Bool) : Option ((Int) ⊕ (Bool)) :=
 bif v4 then
  ((idx l1 i3).bind fun v5 =>
  bif (ltZ 12 (v5.length : Int)) then
   some (.inr false)
  else
   ((z64 (i3 + 1)).bind fun v6 =>
   some (.inl v6)))
 else
  some (.inr (leZ (l1.length : Int) n2))
noncomputable def ladinglaw30_lists.b1 [Fuel] (l1 : List (List Int)) (n2 : Int) (i3 : Int) : Option ((Int) ⊕ (Bool)) :=
 (bif (ltZ i3 (l1.length : Int)) then
  some (leZ i3 n2)
 else
  some false).bind fun x =>
 ladinglaw30_lists.j1 l1 n2 i3 x
noncomputable def ladinglaw30_lists [Fuel] (l1 : List (List Int)) (n2 : Int) : Option Bool :=
 loopF (fun x => ladinglaw30_lists.b1 l1 n2 x) 0
/-- lading/ladinglaw30.models -/
noncomputable def ladinglaw30_models.j1 [Fuel] (l1 : List (List Bool)) (n2 : Int) (i3 : Int) (v4 : Bool) : Option ((Int) ⊕ (Bool)) :=
 bif v4 then
  ((idx l1 i3).bind fun v5 =>
  bif (ltZ 20 (v5.length : Int)) then
   some (.inr false)
  else
   ((z64 (i3 + 1)).bind fun v6 =>
   some (.inl v6)))
 else
  some (.inr (leZ (l1.length : Int) n2))
noncomputable def ladinglaw30_models.b1 [Fuel] (l1 : List (List Bool)) (n2 : Int) (i3 : Int) : Option ((Int) ⊕ (Bool)) :=
 (bif (ltZ i3 (l1.length : Int)) then
  some (leZ i3 n2)
 else
  some false).bind fun x =>
 ladinglaw30_models.j1 l1 n2 i3 x
noncomputable def ladinglaw30_models [Fuel] (l1 : List (List Bool)) (n2 : Int) : Option Bool :=
 loopF (fun x => ladinglaw30_models.b1 l1 n2 x) 0
/-- lading/ladingref26.Right -/
noncomputable def ladingref26_Right.j1 [Fuel] (k5 : Int) (v10 : Bool) : Option ((Int) ⊕ ((Int) ⊕ (Bool))) :=
 bif v10 then
  some (.inr (.inr false))
 else
  ((z64 (k5 + 1)).bind fun v11 =>
  some (.inl v11))
noncomputable def ladingref26_Right.b1 [Fuel] (l1 : List GClause) (n2 : Int) (i4 : Int) (k5 : Int) : Option ((Int) ⊕ ((Int) ⊕ (Bool))) :=
 (idx l1 i4).bind fun v6 =>
 bif (ltZ k5 (v6.1.length : Int)) then
  ((idx l1 i4).bind fun v7 =>
  (idx v7.1 k5).bind fun v8 =>
  (bif (eqZ v8 0) then
   some true
  else
   ((z64 (-n2)).bind fun v9 =>
   bif (ltZ v8 v9) then
    some true
   else
    some (ltZ n2 v8))).bind fun x =>
  ladingref26_Right.j1 k5 x)
 else
  (Option.map Sum.inr ((z64 (i4 + 1)).bind fun v12 =>
  some (.inl v12)))
noncomputable def ladingref26_Right.b2 [Fuel] (l1 : List GClause) (n2 : Int) (i4 : Int) : Option ((Int) ⊕ (Bool)) :=
 bif (ltZ i4 (l1.length : Int)) then
  (loopF (fun x => ladingref26_Right.b1 l1 n2 i4 x) 0)
 else
  some (.inr true)
noncomputable def ladingref26_Right.j2 [Fuel] (l1 : List GClause) (n2 : Int) (v3 : Bool) : Option Bool :=
 bif v3 then
  some false
 else
  (loopF (fun x => ladingref26_Right.b2 l1 n2 x) 0)
noncomputable def ladingref26_Right [Fuel] (l1 : List GClause) (n2 : Int) : Option Bool :=
 (bif (ltZ n2 0) then
  some true
 else
  (bif (ltZ 2000 n2) then
   some true
  else
   some (ltZ 20000 (l1.length : Int)))).bind fun x =>
 ladingref26_Right.j2 l1 n2 x
/-- lading/ladingref26.set -/
noncomputable def ladingref26_set [Fuel] : Option (List Bool) :=
 (msNeed 4001 4001).bind fun _1 =>
 some (repT 4001 (false : Bool))
/-- lading/ladingref26.Lit -/
noncomputable def ladingref26_Lit [Fuel] (x1 : Int) : Option Bool :=
 bif (!eqZ x1 0) then
  (bif (leZ (-2000) x1) then
   some (leZ x1 2000)
  else
   some false)
 else
  some false
/-- lading/ladingref26.open -/
noncomputable def ladingref26_open.j1 [Fuel] (left3 : Int) (i4 : Int) (v5 : Int) (v9 : Bool) : Option ((Int × Int) ⊕ (Int × Bool)) :=
 bif v9 then
  ((z64 (i4 + 1)).bind fun v10 =>
  some (.inl (left3, v10)))
 else
  (bif (!eqZ left3 0) then
   some (.inr (0, false))
  else
   ((z64 (i4 + 1)).bind fun v11 =>
   some (.inl (v5, v11))))
noncomputable def ladingref26_open.b1 [Fuel] (in1 : List Bool) (lits2 : List Int) (left3 : Int) (i4 : Int) : Option ((Int × Int) ⊕ (Int × Bool)) :=
 bif (ltZ i4 (lits2.length : Int)) then
  ((idx lits2 i4).bind fun v5 =>
  ((ladingref26_Lit v5).bind fun l6 =>
  bif (!l6) then
   some true
  else
   ((z64 ((2000 : Int) - v5)).bind fun v7 =>
   (idx in1 v7).bind fun v8 =>
   bif v8 then
    some true
   else
    some (eqZ v5 left3))).bind fun x =>
  ladingref26_open.j1 left3 i4 v5 x)
 else
  some (.inr (left3, true))
noncomputable def ladingref26_open [Fuel] (in1 : List Bool) (lits2 : List Int) : Option (Int × Bool) :=
 loopF (fun x => ladingref26_open.b1 in1 lits2 x.1 x.2) (0, 0)
/-- lading/ladingref26.closure -/
noncomputable def ladingref26_closure.b1 [Fuel] (p2 : List Int) (v4 : Int) (v5 : List Bool) : Option ((Int × List Bool) ⊕ (List Bool)) :=
 bif (ltZ v4 (p2.length : Int)) then
  ((idx p2 v4).bind fun v6 =>
  (ladingref26_Lit v6).bind fun l7 =>
  bif l7 then
   ((idx p2 v4).bind fun v8 =>
   (z64 ((2000 : Int) + v8)).bind fun v9 =>
   (idx v5 v9).bind fun _10 =>
   (idx v5 v9).bind fun v11 =>
   (z64 (v4 + 1)).bind fun v12 =>
   some (.inl (v12, (v5.set v9.toNat true))))
  else
   ((z64 (v4 + 1)).bind fun v13 =>
   some (.inl (v13, v5))))
 else
  some (.inr v5)
noncomputable def ladingref26_closure.b2 [Fuel] (l1 : List GClause) (v17 : Bool) (v18 : Int) (v19 : List Bool) : Option ((Bool × Int × List Bool) ⊕ ((Bool × List Bool) ⊕ ((List Bool) ⊕ ((List Bool) × Bool)))) :=
 bif (ltZ v18 (l1.length : Int)) then
  ((idx l1 v18).bind fun v20 =>
  (ladingref26_open v19 v20.1).bind fun o21 =>
  bif (!o21.2) then
   ((z64 (v18 + 1)).bind fun v22 =>
   some (.inl (v17, v22, v19)))
  else
   (bif (eqZ o21.1 0) then
    some (.inr (.inr (.inr (v19, false))))
   else
    ((z64 ((2000 : Int) + o21.1)).bind fun v23 =>
    (idx v19 v23).bind fun _24 =>
    (idx v19 v23).bind fun v25 =>
    bif (!v25) then
     ((z64 ((2000 : Int) + o21.1)).bind fun v26 =>
     (idx v19 v26).bind fun _27 =>
     (idx v19 v26).bind fun v28 =>
     (z64 (v18 + 1)).bind fun v29 =>
     some (.inl (true, v29, (v19.set v26.toNat true))))
    else
     ((z64 (v18 + 1)).bind fun v30 =>
     some (.inl (v17, v30, v19))))))
 else
  some (.inr (.inl (v17, v19)))
noncomputable def ladingref26_closure.b3 [Fuel] (l1 : List GClause) (v15 : Bool) (v16 : List Bool) : Option ((Bool × List Bool) ⊕ ((List Bool) ⊕ ((List Bool) × Bool))) :=
 bif v15 then
  (loopF (fun x => ladingref26_closure.b2 l1 x.1 x.2.1 x.2.2) (false, 0, v16))
 else
  some (.inr (.inl v16))
noncomputable def ladingref26_closure.j1 [Fuel] (v31 : List Bool) (v32 : Int) (v39 : Bool) : Option ((Int) ⊕ ((List Bool) × Bool)) :=
 bif v39 then
  some (.inr (v31, false))
 else
  ((z64 (v32 + 1)).bind fun v40 =>
  some (.inl v40))
noncomputable def ladingref26_closure.b4 [Fuel] (v31 : List Bool) (v32 : Int) : Option ((Int) ⊕ ((List Bool) × Bool)) :=
 bif (leZ v32 2000) then
  (((z64 ((2000 : Int) + v32)).bind fun v33 =>
  (idx v31 v33).bind fun _34 =>
  (idx v31 v33).bind fun v35 =>
  bif v35 then
   ((z64 ((2000 : Int) - v32)).bind fun v36 =>
   (idx v31 v36).bind fun _37 =>
   (idx v31 v36).bind fun v38 =>
   some v38)
  else
   some false).bind fun x =>
  ladingref26_closure.j1 v31 v32 x)
 else
  some (.inr (v31, true))
noncomputable def ladingref26_closure.j2 [Fuel] (v31 : List Bool) : Option ((List Bool) × Bool) :=
 loopF (fun x => ladingref26_closure.b4 v31 x) 1
noncomputable def ladingref26_closure.j3 [Fuel] (l1 : List GClause) (v14 : List Bool) : Option ((List Bool) × Bool) :=
 (loopF (fun x => ladingref26_closure.b3 l1 x.1 x.2) (true, v14)).bind fun x => match x with
 | .inl x =>
  ladingref26_closure.j2 x
 | .inr r => some r
noncomputable def ladingref26_closure [Fuel] (l1 : List GClause) (p2 : List Int) : Option ((List Bool) × Bool) :=
 (ladingref26_set).bind fun s3 =>
 (loopF (fun x => ladingref26_closure.b1 p2 x.1 x.2) (0, s3)).bind fun x =>
 ladingref26_closure.j3 l1 x
/-- lading/ladingref26.Propagate -/
noncomputable def ladingref26_Propagate.b1 [Fuel] (c3 : (List Bool) × Bool) (x4 : Int) (out5 : List Int) : Option ((Int × List Int) ⊕ (Bool × List Int)) :=
 bif (leZ x4 2000) then
  ((z64 ((2000 : Int) + x4)).bind fun v6 =>
  (idx c3.1 v6).bind fun v7 =>
  bif v7 then
   ((app? out5 ([x4] : List Int)).bind fun l8 =>
   (z64 (x4 + 1)).bind fun v9 =>
   some (.inl (v9, l8)))
  else
   ((z64 (x4 + 1)).bind fun v10 =>
   some (.inl (v10, out5))))
 else
  some (.inr (true, out5))
noncomputable def ladingref26_Propagate [Fuel] (l1 : List GClause) (lits2 : List Int) : Option (Bool × List Int) :=
 (ladingref26_closure l1 lits2).bind fun c3 =>
 bif (!c3.2) then
  some (false, [])
 else
  (loopF (fun x => ladingref26_Propagate.b1 c3 x.1 x.2) ((-2000), []))
/-- lading/ladingref27.has -/
noncomputable def ladingref27_has.b1 [Fuel] (l1 : List Int) (x2 : Int) (i3 : Int) : Option ((Int) ⊕ (Bool)) :=
 bif (ltZ i3 (l1.length : Int)) then
  ((idx l1 i3).bind fun v4 =>
  bif (eqZ v4 x2) then
   some (.inr true)
  else
   ((z64 (i3 + 1)).bind fun v5 =>
   some (.inl v5)))
 else
  some (.inr false)
noncomputable def ladingref27_has [Fuel] (l1 : List Int) (x2 : Int) : Option Bool :=
 loopF (fun x => ladingref27_has.b1 l1 x2 x) 0
/-- lading/ladingref27.Solve -/
noncomputable def ladingref27_Solve.j1 [Fuel] (v5 : Int) (v10 : Bool) : Option ((Int) ⊕ ((Unit) ⊕ ((List Bool) × (List (List Int)) × Int))) :=
 bif v10 then
  some (.inr (.inr ([], [], 1)))
 else
  ((z64 (v5 + 1)).bind fun v11 =>
  some (.inl v11))
noncomputable def ladingref27_Solve.b1 [Fuel] (p2 : Int) (p3 : List Int) (v5 : Int) : Option ((Int) ⊕ ((Unit) ⊕ ((List Bool) × (List (List Int)) × Int))) :=
 bif (ltZ v5 (p3.length : Int)) then
  (((idx p3 v5).bind fun v6 =>
  bif (eqZ v6 0) then
   some true
  else
   ((idx p3 v5).bind fun v7 =>
   (z64 (-p2)).bind fun v8 =>
   bif (ltZ v7 v8) then
    some true
   else
    ((idx p3 v5).bind fun v9 =>
    some (ltZ p2 v9)))).bind fun x =>
  ladingref27_Solve.j1 v5 x)
 else
  some (.inr (.inl ()))
noncomputable def ladingref27_Solve.b2 [Fuel] (v15 : List Int) (v19 : Int) (v20 : List Int) : Option ((Int × List Int) ⊕ (List Int)) :=
 bif (ltZ v19 (v15.length : Int)) then
  ((idx v15 v19).bind fun _21 =>
  (idx v15 v19).bind fun v22 =>
  (z64 (-v22)).bind fun v23 =>
  (app? v20 ([v23] : List Int)).bind fun l24 =>
  (z64 (v19 + 1)).bind fun v25 =>
  some (.inl (v25, l24)))
 else
  some (.inr v20)
noncomputable def ladingref27_Solve.j2 [Fuel] (v13 : List GClause) (v14 : List (List Int)) (v15 : List Int) (v26 : List Int) : Option (((List GClause) × (List (List Int)) × List Int) ⊕ (((List GClause) × (List (List Int)) × List Int) ⊕ ((List Bool) × (List (List Int)) × Int))) :=
 (app? v14 ([v26] : List (List Int))).bind fun l27 =>
 (app? v13 ([(v26, 0, 0, 0)] : List GClause)).bind fun l28 =>
 bif (ltZ 4000 (l27.length : Int)) then
  some (.inr (.inr ([], [], 6)))
 else
  (bif (eqZ (v15.length : Int) 0) then
   some (.inr (.inr ([], l27, 26)))
  else
   ((z64 ((v15.length : Int) - 1)).bind fun v29 =>
   (cut v15 0 v29).bind fun l30 =>
   some (.inr (.inl (l28, l27, l30)))))
noncomputable def ladingref27_Solve.j3 [Fuel] (v34 : Int) (v40 : Bool) : Option ((Int) ⊕ (Int)) :=
 bif v40 then
  ((z64 (v34 + 1)).bind fun v41 =>
  some (.inl v41))
 else
  some (.inr v34)
noncomputable def ladingref27_Solve.b3 [Fuel] (p2 : Int) (p18 : Bool × List Int) (v34 : Int) : Option ((Int) ⊕ (Int)) :=
 (bif (ltZ v34 p2) then
  ((z64 (v34 + 1)).bind fun v35 =>
  (ladingref27_has p18.2 v35).bind fun h36 =>
  bif h36 then
   some true
  else
   ((z64 (-v34)).bind fun v37 =>
   (z64 (v37 - 1)).bind fun v38 =>
   (ladingref27_has p18.2 v38).bind fun h39 =>
   some h39))
 else
  some false).bind fun x =>
 ladingref27_Solve.j3 v34 x
noncomputable def ladingref27_Solve.b4 [Fuel] (p2 : Int) (p18 : Bool × List Int) (v47 : Int) (v48 : List Bool) : Option ((Int × List Bool) ⊕ (((List GClause) × (List (List Int)) × List Int) ⊕ ((List Bool) × (List (List Int)) × Int))) :=
 bif (ltZ v47 p2) then
  ((z64 (v47 + 1)).bind fun v49 =>
  (ladingref27_has p18.2 v49).bind fun h50 =>
  (idx v48 v47).bind fun _51 =>
  (idx v48 v47).bind fun v52 =>
  (z64 (v47 + 1)).bind fun v53 =>
  some (.inl (v53, (v48.set v47.toNat h50))))
 else
  some (.inr (.inr (v48, [], 0)))
noncomputable def ladingref27_Solve.j4 [Fuel] (p2 : Int) (p18 : Bool × List Int) (v31 : List GClause) (v32 : List (List Int)) (v33 : List Int) (v42 : Int) : Option (((List GClause) × (List (List Int)) × List Int) ⊕ ((List Bool) × (List (List Int)) × Int)) :=
 bif (ltZ v42 p2) then
  ((z64 (-v42)).bind fun v43 =>
  (z64 (v43 - 1)).bind fun v44 =>
  (app? v33 ([v44] : List Int)).bind fun l45 =>
  some (.inl (v31, v32, l45)))
 else
  ((msNeed p2 p2).bind fun _46 =>
  loopF (fun x => ladingref27_Solve.b4 p2 p18 x.1 x.2) (0, (repT p2 (false : Bool))))
noncomputable def ladingref27_Solve.j5 [Fuel] (p2 : Int) (p18 : Bool × List Int) (v31 : List GClause) (v32 : List (List Int)) (v33 : List Int) : Option (((List GClause) × (List (List Int)) × List Int) ⊕ ((List Bool) × (List (List Int)) × Int)) :=
 (loopF (fun x => ladingref27_Solve.b3 p2 p18 x) 0).bind fun x =>
 ladingref27_Solve.j4 p2 p18 v31 v32 v33 x
noncomputable def ladingref27_Solve.b5 [Fuel] (p2 : Int) (p3 : List Int) (v13 : List GClause) (v14 : List (List Int)) (v15 : List Int) : Option (((List GClause) × (List (List Int)) × List Int) ⊕ ((List Bool) × (List (List Int)) × Int)) :=
 (app? ([] : List Int) p3).bind fun l16 =>
 (app? l16 v15).bind fun l17 =>
 (ladingref26_Propagate v13 l17).bind fun p18 =>
 (bif (!p18.1) then
  ((loopF (fun x => ladingref27_Solve.b2 v15 x.1 x.2) (0, [])).bind fun x =>
  ladingref27_Solve.j2 v13 v14 v15 x)
 else
  some (.inl (v13, v14, v15))).bind fun x => match x with
 | .inl x =>
  ladingref27_Solve.j5 p2 p18 x.1 x.2.1 x.2.2
 | .inr r => some r
noncomputable def ladingref27_Solve.j6 [Fuel] (l1 : List GClause) (p2 : Int) (p3 : List Int) : Option ((List Bool) × (List (List Int)) × Int) :=
 (app? ([] : List GClause) l1).bind fun l12 =>
 loopF (fun x => ladingref27_Solve.b5 p2 p3 x.1 x.2.1 x.2.2) (l12, [], [])
noncomputable def ladingref27_Solve [Fuel] (l1 : List GClause) (p2 : Int) (p3 : List Int) : Option ((List Bool) × (List (List Int)) × Int) :=
 (ladingref26_Right l1 p2).bind fun r4 =>
 bif (!r4) then
  some ([], [], 1)
 else
  ((loopF (fun x => ladingref27_Solve.b1 p2 p3 x) 0).bind fun x => match x with
  | .inl x =>
   ladingref27_Solve.j6 l1 p2 p3
  | .inr r => some r)
/-- lading/ladingref30.clauses -/
noncomputable def ladingref30_clauses_v2.b1 [Fuel] (l1 : List GClause) (core2 : List Int) (but3 : Int) (i4 : Int) (out5 : List GClause) : Option ((Int × List GClause) ⊕ (List GClause)) :=
 bif (ltZ i4 (core2.length : Int)) then
  (bif (!eqZ i4 but3) then
   ((idx core2 i4).bind fun v6 =>
   (idx l1 v6).bind fun v7 =>
   (app? out5 ([v7] : List GClause)).bind fun l8 =>
   (z64 (i4 + 1)).bind fun v9 =>
   some (.inl (v9, l8)))
  else
   ((z64 (i4 + 1)).bind fun v10 =>
   some (.inl (v10, out5))))
 else
  some (.inr out5)
noncomputable def ladingref30_clauses_v2 [Fuel] (l1 : List GClause) (core2 : List Int) (but3 : Int) : Option (List GClause) :=
 loopF (fun x => ladingref30_clauses_v2.b1 l1 core2 but3 x.1 x.2) (0, [])
/-- lading/ladingref27.Solve -/
noncomputable def ladingref27_Solve_v2.j1 [Fuel] (v5 : Int) (v10 : Bool) : Option ((Int) ⊕ ((Unit) ⊕ ((List (List Int)) × Int × List Bool))) :=
 bif v10 then
  some (.inr (.inr ([], 1, [])))
 else
  ((z64 (v5 + 1)).bind fun v11 =>
  some (.inl v11))
noncomputable def ladingref27_Solve_v2.b1 [Fuel] (p2 : Int) (p3 : List Int) (v5 : Int) : Option ((Int) ⊕ ((Unit) ⊕ ((List (List Int)) × Int × List Bool))) :=
 bif (ltZ v5 (p3.length : Int)) then
  (((idx p3 v5).bind fun v6 =>
  bif (eqZ v6 0) then
   some true
  else
   ((idx p3 v5).bind fun v7 =>
   (z64 (-p2)).bind fun v8 =>
   bif (ltZ v7 v8) then
    some true
   else
    ((idx p3 v5).bind fun v9 =>
    some (ltZ p2 v9)))).bind fun x =>
  ladingref27_Solve_v2.j1 v5 x)
 else
  some (.inr (.inl ()))
noncomputable def ladingref27_Solve_v2.b2 [Fuel] (v15 : List Int) (v19 : Int) (v20 : List Int) : Option ((Int × List Int) ⊕ (List Int)) :=
 bif (ltZ v19 (v15.length : Int)) then
  ((idx v15 v19).bind fun _21 =>
  (idx v15 v19).bind fun v22 =>
  (z64 (-v22)).bind fun v23 =>
  (app? v20 ([v23] : List Int)).bind fun l24 =>
  (z64 (v19 + 1)).bind fun v25 =>
  some (.inl (v25, l24)))
 else
  some (.inr v20)
noncomputable def ladingref27_Solve_v2.j2 [Fuel] (v13 : List GClause) (v14 : List (List Int)) (v15 : List Int) (v26 : List Int) : Option (((List GClause) × (List (List Int)) × List Int) ⊕ (((List GClause) × (List (List Int)) × List Int) ⊕ ((List (List Int)) × Int × List Bool))) :=
 (app? v14 ([v26] : List (List Int))).bind fun l27 =>
 (app? v13 ([(v26, 0, 0, 0)] : List GClause)).bind fun l28 =>
 bif (ltZ 4000 (l27.length : Int)) then
  some (.inr (.inr ([], 6, [])))
 else
  (bif (eqZ (v15.length : Int) 0) then
   some (.inr (.inr (l27, 26, [])))
  else
   ((z64 ((v15.length : Int) - 1)).bind fun v29 =>
   (cut v15 0 v29).bind fun l30 =>
   some (.inr (.inl (l28, l27, l30)))))
noncomputable def ladingref27_Solve_v2.j3 [Fuel] (v34 : Int) (v40 : Bool) : Option ((Int) ⊕ (Int)) :=
 bif v40 then
  ((z64 (v34 + 1)).bind fun v41 =>
  some (.inl v41))
 else
  some (.inr v34)
noncomputable def ladingref27_Solve_v2.b3 [Fuel] (p2 : Int) (p18 : Bool × List Int) (v34 : Int) : Option ((Int) ⊕ (Int)) :=
 (bif (ltZ v34 p2) then
  ((z64 (v34 + 1)).bind fun v35 =>
  (ladingref27_has p18.2 v35).bind fun h36 =>
  bif h36 then
   some true
  else
   ((z64 (-v34)).bind fun v37 =>
   (z64 (v37 - 1)).bind fun v38 =>
   (ladingref27_has p18.2 v38).bind fun h39 =>
   some h39))
 else
  some false).bind fun x =>
 ladingref27_Solve_v2.j3 v34 x
noncomputable def ladingref27_Solve_v2.b4 [Fuel] (p2 : Int) (p18 : Bool × List Int) (v47 : Int) (v48 : List Bool) : Option ((Int × List Bool) ⊕ (((List GClause) × (List (List Int)) × List Int) ⊕ ((List (List Int)) × Int × List Bool))) :=
 bif (ltZ v47 p2) then
  ((z64 (v47 + 1)).bind fun v49 =>
  (ladingref27_has p18.2 v49).bind fun h50 =>
  (idx v48 v47).bind fun _51 =>
  (idx v48 v47).bind fun v52 =>
  (z64 (v47 + 1)).bind fun v53 =>
  some (.inl (v53, (v48.set v47.toNat h50))))
 else
  some (.inr (.inr ([], 0, v48)))
noncomputable def ladingref27_Solve_v2.j4 [Fuel] (p2 : Int) (p18 : Bool × List Int) (v31 : List GClause) (v32 : List (List Int)) (v33 : List Int) (v42 : Int) : Option (((List GClause) × (List (List Int)) × List Int) ⊕ ((List (List Int)) × Int × List Bool)) :=
 bif (ltZ v42 p2) then
  ((z64 (-v42)).bind fun v43 =>
  (z64 (v43 - 1)).bind fun v44 =>
  (app? v33 ([v44] : List Int)).bind fun l45 =>
  some (.inl (v31, v32, l45)))
 else
  ((msNeed p2 p2).bind fun _46 =>
  loopF (fun x => ladingref27_Solve_v2.b4 p2 p18 x.1 x.2) (0, (repT p2 (false : Bool))))
noncomputable def ladingref27_Solve_v2.j5 [Fuel] (p2 : Int) (p18 : Bool × List Int) (v31 : List GClause) (v32 : List (List Int)) (v33 : List Int) : Option (((List GClause) × (List (List Int)) × List Int) ⊕ ((List (List Int)) × Int × List Bool)) :=
 (loopF (fun x => ladingref27_Solve_v2.b3 p2 p18 x) 0).bind fun x =>
 ladingref27_Solve_v2.j4 p2 p18 v31 v32 v33 x
noncomputable def ladingref27_Solve_v2.b5 [Fuel] (p2 : Int) (p3 : List Int) (v13 : List GClause) (v14 : List (List Int)) (v15 : List Int) : Option (((List GClause) × (List (List Int)) × List Int) ⊕ ((List (List Int)) × Int × List Bool)) :=
 (app? ([] : List Int) p3).bind fun l16 =>
 (app? l16 v15).bind fun l17 =>
 (ladingref26_Propagate v13 l17).bind fun p18 =>
 (bif (!p18.1) then
  ((loopF (fun x => ladingref27_Solve_v2.b2 v15 x.1 x.2) (0, [])).bind fun x =>
  ladingref27_Solve_v2.j2 v13 v14 v15 x)
 else
  some (.inl (v13, v14, v15))).bind fun x => match x with
 | .inl x =>
  ladingref27_Solve_v2.j5 p2 p18 x.1 x.2.1 x.2.2
 | .inr r => some r
noncomputable def ladingref27_Solve_v2.j6 [Fuel] (l1 : List GClause) (p2 : Int) (p3 : List Int) : Option ((List (List Int)) × Int × List Bool) :=
 (app? ([] : List GClause) l1).bind fun l12 =>
 loopF (fun x => ladingref27_Solve_v2.b5 p2 p3 x.1 x.2.1 x.2.2) (l12, [], [])
noncomputable def ladingref27_Solve_v2 [Fuel] (l1 : List GClause) (p2 : Int) (p3 : List Int) : Option ((List (List Int)) × Int × List Bool) :=
 (ladingref26_Right l1 p2).bind fun r4 =>
 bif (!r4) then
  some ([], 1, [])
 else
  ((loopF (fun x => ladingref27_Solve_v2.b1 p2 p3 x) 0).bind fun x => match x with
  | .inl x =>
   ladingref27_Solve_v2.j6 l1 p2 p3
  | .inr r => some r)
/-- lading/ladingref30.Core -/
noncomputable def ladingref30_Core.b1 [Fuel] (l1 : List GClause) (v5 : Int) (v6 : List Int) : Option ((Int × List Int) ⊕ (List Int)) :=
 bif (ltZ v5 (l1.length : Int)) then
  ((app? v6 ([v5] : List Int)).bind fun l7 =>
  (z64 (v5 + 1)).bind fun v8 =>
  some (.inl (v8, l7)))
 else
  some (.inr v6)
noncomputable def ladingref30_Core.b2 [Fuel] (v11 : List Int) (v12 : Int) (v13 : Int) : Option ((Int) ⊕ (Int)) :=
 (idx v11 v13).bind fun v14 =>
 bif (!eqZ v14 v12) then
  ((z64 (v13 + 1)).bind fun v15 =>
  some (.inl v15))
 else
  some (.inr v13)
noncomputable def ladingref30_Core.j1 [Fuel] (v11 : List Int) (v12 : Int) (v16 : Int) (s18 : (List Bool) × (List (List Int)) × Int) (v19 : Bool) : Option (((List Int) × Int) ⊕ ((List Int) ⊕ (GRefusal × Int))) :=
 bif v19 then
  some (.inr (.inr (([], [], []), s18.2.2)))
 else
  (bif (eqZ s18.2.2 26) then
   ((cut v11 0 v16).bind fun l20 =>
   (app? ([] : List Int) l20).bind fun l21 =>
   (z64 (v16 + 1)).bind fun v22 =>
   (cut v11 v22 (v11.length : Int)).bind fun l23 =>
   (app? l21 l23).bind fun l24 =>
   (z64 (v12 - 1)).bind fun v25 =>
   some (.inl (l24, v25)))
  else
   ((z64 (v12 - 1)).bind fun v26 =>
   some (.inl (v11, v26))))
noncomputable def ladingref30_Core.j2 [Fuel] (l1 : List GClause) (p2 : Int) (v11 : List Int) (v12 : Int) (v16 : Int) : Option (((List Int) × Int) ⊕ ((List Int) ⊕ (GRefusal × Int))) :=
 (ladingref30_clauses_v2 l1 v11 v16).bind fun v17 =>
 (ladingref27_Solve v17 p2 []).bind fun s18 =>
 (bif (!eqZ s18.2.2 0) then
  some (!eqZ s18.2.2 26)
 else
  some false).bind fun x =>
 ladingref30_Core.j1 v11 v12 v16 s18 x
noncomputable def ladingref30_Core.b3 [Fuel] (l1 : List GClause) (p2 : Int) (v11 : List Int) (v12 : Int) : Option (((List Int) × Int) ⊕ ((List Int) ⊕ (GRefusal × Int))) :=
 bif (leZ 0 v12) then
  ((loopF (fun x => ladingref30_Core.b2 v11 v12 x) 0).bind fun x =>
  ladingref30_Core.j2 l1 p2 v11 v12 x)
 else
  some (.inr (.inl v11))
noncomputable def ladingref30_Core.b4 [Fuel] (l1 : List GClause) (p2 : Int) (v27 : List Int) (v30 : Int) (v31 : List Int) (v32 : List (List Int)) (v33 : List (List Bool)) : Option ((Int × (List Int) × (List (List Int)) × List (List Bool)) ⊕ (GRefusal × Int)) :=
 bif (ltZ v30 (v27.length : Int)) then
  ((ladingref30_clauses_v2 l1 v27 v30).bind fun v34 =>
  (ladingref27_Solve v34 p2 []).bind fun s35 =>
  bif (!eqZ s35.2.2 0) then
   some (.inr (([], [], []), s35.2.2))
  else
   ((app? v33 ([s35.1] : List (List Bool))).bind fun l36 =>
   (z64 (v30 + 1)).bind fun v37 =>
   some (.inl (v37, v31, v32, l36))))
 else
  some (.inr ((v31, v32, v33), 0))
noncomputable def ladingref30_Core.j3 [Fuel] (l1 : List GClause) (p2 : Int) (v27 : List Int) : Option (GRefusal × Int) :=
 (ladingref30_clauses_v2 l1 v27 (-1)).bind fun v28 =>
 (ladingref27_Solve_v2 v28 p2 []).bind fun v29 =>
 bif (!eqZ v29.2.1 26) then
  some (([], [], []), v29.2.1)
 else
  (loopF (fun x => ladingref30_Core.b4 l1 p2 v27 x.1 x.2.1 x.2.2.1 x.2.2.2) (0, v27, v29.1, []))
noncomputable def ladingref30_Core.j4 [Fuel] (l1 : List GClause) (p2 : Int) (v9 : List Int) : Option (GRefusal × Int) :=
 ((z64 ((l1.length : Int) - 1)).bind fun v10 =>
 loopF (fun x => ladingref30_Core.b3 l1 p2 x.1 x.2) (v9, v10)).bind fun x => match x with
 | .inl x =>
  ladingref30_Core.j3 l1 p2 x
 | .inr r => some r
noncomputable def ladingref30_Core [Fuel] (l1 : List GClause) (p2 : Int) : Option (GRefusal × Int) :=
 (ladingref26_Right l1 p2).bind fun r3 =>
 bif (!r3) then
  some (([], [], []), 1)
 else
  ((ladingref27_Solve l1 p2 []).bind fun s4 =>
  bif (eqZ s4.2.2 0) then
   some (([], [], []), 4)
  else
   (bif (!eqZ s4.2.2 26) then
    some (([], [], []), s4.2.2)
   else
    ((loopF (fun x => ladingref30_Core.b1 l1 x.1 x.2) (0, [])).bind fun x =>
    ladingref30_Core.j4 l1 p2 x)))
/-- lading/ladingref30.SameLists -/
noncomputable def ladingref30_SameLists.b1 [Fuel] (a1 : List (List Int)) (b2 : List (List Int)) (i3 : Int) : Option ((Int) ⊕ (Bool)) :=
 bif (ltZ i3 (a1.length : Int)) then
  ((idx a1 i3).bind fun v4 =>
  (idx b2 i3).bind fun v5 =>
  (ladingref26_Same v4 v5).bind fun s6 =>
  bif (!s6) then
   some (.inr false)
  else
   ((z64 (i3 + 1)).bind fun v7 =>
   some (.inl v7)))
 else
  some (.inr true)
noncomputable def ladingref30_SameLists [Fuel] (a1 : List (List Int)) (b2 : List (List Int)) : Option Bool :=
 bif (!eqZ (a1.length : Int) (b2.length : Int)) then
  some false
 else
  (loopF (fun x => ladingref30_SameLists.b1 a1 b2 x) 0)
/-- lading/ladingref30.SameModels -/
noncomputable def ladingref30_SameModels.b1 [Fuel] (a1 : List (List Bool)) (b2 : List (List Bool)) (i3 : Int) (k6 : Int) : Option ((Int) ⊕ ((Int) ⊕ (Bool))) :=
 (idx a1 i3).bind fun v7 =>
 bif (ltZ k6 (v7.length : Int)) then
  ((idx a1 i3).bind fun v8 =>
  (idx v8 k6).bind fun v9 =>
  (idx b2 i3).bind fun v10 =>
  (idx v10 k6).bind fun v11 =>
  bif (!(v9 == v11)) then
   some (.inr (.inr false))
  else
   ((z64 (k6 + 1)).bind fun v12 =>
   some (.inl v12)))
 else
  (Option.map Sum.inr ((z64 (i3 + 1)).bind fun v13 =>
  some (.inl v13)))
noncomputable def ladingref30_SameModels.b2 [Fuel] (a1 : List (List Bool)) (b2 : List (List Bool)) (i3 : Int) : Option ((Int) ⊕ (Bool)) :=
 bif (ltZ i3 (a1.length : Int)) then
  ((idx a1 i3).bind fun v4 =>
  (idx b2 i3).bind fun v5 =>
  bif (!eqZ (v4.length : Int) (v5.length : Int)) then
   some (.inr false)
  else
   (loopF (fun x => ladingref30_SameModels.b1 a1 b2 i3 x) 0))
 else
  some (.inr true)
noncomputable def ladingref30_SameModels [Fuel] (a1 : List (List Bool)) (b2 : List (List Bool)) : Option Bool :=
 bif (!eqZ (a1.length : Int) (b2.length : Int)) then
  some false
 else
  (loopF (fun x => ladingref30_SameModels.b2 a1 b2 x) 0)
/-- lading/ladingref30.Facts -/
noncomputable def ladingref30_Facts.j1 [Fuel] (v3 : List Int) (v13 : Int) (v14 : List Int) (v16 : Bool) : Option ((Int × List Int) ⊕ (Int × List Int)) :=
 bif v16 then
  ((idx v3 v13).bind fun v17 =>
  (app? v14 ([v17] : List Int)).bind fun l18 =>
  (z64 (v13 + 1)).bind fun v19 =>
  some (.inl (v19, l18)))
 else
  some (.inr (v13, v14))
noncomputable def ladingref30_Facts.b1 [Fuel] (v3 : List Int) (v12 : GClause) (v13 : Int) (v14 : List Int) : Option ((Int × List Int) ⊕ (Int × List Int)) :=
 (bif (ltZ v13 (v3.length : Int)) then
  ((idx v3 v13).bind fun v15 =>
  some (ltZ v15 v12.2.2.1))
 else
  some false).bind fun x =>
 ladingref30_Facts.j1 v3 v13 v14 x
noncomputable def ladingref30_Facts.j2 [Fuel] (v3 : List Int) (v4 : Int) (v20 : Int) (l22 : List Int) (v24 : Bool) : Option (((List Int) × Int) ⊕ (List Int)) :=
 bif v24 then
  ((z64 (v20 + 1)).bind fun v25 =>
  (cut v3 v25 (v3.length : Int)).bind fun l26 =>
  (app? l22 l26).bind fun l27 =>
  (z64 (v4 + 1)).bind fun v28 =>
  some (.inl (l27, v28)))
 else
  ((cut v3 v20 (v3.length : Int)).bind fun l29 =>
  (app? l22 l29).bind fun l30 =>
  (z64 (v4 + 1)).bind fun v31 =>
  some (.inl (l30, v31)))
noncomputable def ladingref30_Facts.j3 [Fuel] (v3 : List Int) (v4 : Int) (v12 : GClause) (v20 : Int) (v21 : List Int) : Option (((List Int) × Int) ⊕ (List Int)) :=
 (app? v21 ([v12.2.2.1] : List Int)).bind fun l22 =>
 (bif (ltZ v20 (v3.length : Int)) then
  ((idx v3 v20).bind fun v23 =>
  some (eqZ v23 v12.2.2.1))
 else
  some false).bind fun x =>
 ladingref30_Facts.j2 v3 v4 v20 l22 x
noncomputable def ladingref30_Facts.j4 [Fuel] (l1 : List GClause) (p2 : List Int) (v3 : List Int) (v4 : Int) (v9 : Bool) : Option (((List Int) × Int) ⊕ (List Int)) :=
 bif v9 then
  ((z64 (v4 + 1)).bind fun v10 =>
  some (.inl (v3, v10)))
 else
  ((idx p2 v4).bind fun v11 =>
  (idx l1 v11).bind fun v12 =>
  (loopF (fun x => ladingref30_Facts.b1 v3 v12 x.1 x.2) (0, [])).bind fun x =>
  ladingref30_Facts.j3 v3 v4 v12 x.1 x.2)
noncomputable def ladingref30_Facts.b2 [Fuel] (l1 : List GClause) (p2 : List Int) (v3 : List Int) (v4 : Int) : Option (((List Int) × Int) ⊕ (List Int)) :=
 bif (ltZ v4 (p2.length : Int)) then
  (((idx p2 v4).bind fun v5 =>
  bif (ltZ v5 0) then
   some true
  else
   ((idx p2 v4).bind fun v6 =>
   bif (leZ (l1.length : Int) v6) then
    some true
   else
    ((idx p2 v4).bind fun v7 =>
    (idx l1 v7).bind fun v8 =>
    some (ltZ v8.2.2.1 0)))).bind fun x =>
  ladingref30_Facts.j4 l1 p2 v3 v4 x)
 else
  some (.inr v3)
noncomputable def ladingref30_Facts [Fuel] (l1 : List GClause) (p2 : List Int) : Option (List Int) :=
 loopF (fun x => ladingref30_Facts.b2 l1 p2 x.1 x.2) ([], 0)
/-- lading/ladingref26.Follows -/
noncomputable def ladingref26_Follows.b1 [Fuel] (lits2 : List Int) (i3 : Int) (not4 : List Int) : Option ((Int × List Int) ⊕ (List Int)) :=
 bif (ltZ i3 (lits2.length : Int)) then
  ((idx lits2 i3).bind fun v5 =>
  (ladingref26_Lit v5).bind fun l6 =>
  bif l6 then
   ((idx lits2 i3).bind fun v7 =>
   (z64 (-v7)).bind fun v8 =>
   (app? not4 ([v8] : List Int)).bind fun l9 =>
   (z64 (i3 + 1)).bind fun v10 =>
   some (.inl (v10, l9)))
  else
   ((z64 (i3 + 1)).bind fun v11 =>
   some (.inl (v11, not4))))
 else
  some (.inr not4)
noncomputable def ladingref26_Follows.j1 [Fuel] (l1 : List GClause) (not12 : List Int) : Option Bool :=
 (ladingref26_closure l1 not12).bind fun c13 =>
 some (!c13.2)
noncomputable def ladingref26_Follows [Fuel] (l1 : List GClause) (lits2 : List Int) : Option Bool :=
 (loopF (fun x => ladingref26_Follows.b1 lits2 x.1 x.2) (0, [])).bind fun x =>
 ladingref26_Follows.j1 l1 x
/-- lading/ladingref26.Proof -/
noncomputable def ladingref26_Proof.b1 [Fuel] (learnt2 : List (List Int)) (i4 : Int) (all5 : List GClause) : Option ((Int × List GClause) ⊕ ((Unit) ⊕ (Int))) :=
 bif (ltZ i4 (learnt2.length : Int)) then
  ((idx learnt2 i4).bind fun v6 =>
  (ladingref26_Follows all5 v6).bind fun f7 =>
  bif (!f7) then
   some (.inr (.inr 19))
  else
   ((idx learnt2 i4).bind fun v8 =>
   (app? all5 ([(v8, 0, 0, 0)] : List GClause)).bind fun l9 =>
   (z64 (i4 + 1)).bind fun v10 =>
   some (.inl (v10, l9))))
 else
  some (.inr (.inl ()))
noncomputable def ladingref26_Proof.b2 [Fuel] (v12 : List Int) (i13 : Int) : Option ((Int) ⊕ (Int)) :=
 bif (ltZ i13 (v12.length : Int)) then
  ((idx v12 i13).bind fun v14 =>
  (ladingref26_Lit v14).bind fun l15 =>
  bif l15 then
   some (.inr 19)
  else
   ((z64 (i13 + 1)).bind fun v16 =>
   some (.inl v16)))
 else
  some (.inr 0)
noncomputable def ladingref26_Proof.j1 [Fuel] (learnt2 : List (List Int)) : Option Int :=
 (z64 ((learnt2.length : Int) - 1)).bind fun v11 =>
 (idx learnt2 v11).bind fun v12 =>
 loopF (fun x => ladingref26_Proof.b2 v12 x) 0
noncomputable def ladingref26_Proof [Fuel] (l1 : List GClause) (learnt2 : List (List Int)) : Option Int :=
 bif (ltZ 4000 (learnt2.length : Int)) then
  some 6
 else
  (bif (eqZ (learnt2.length : Int) 0) then
   some 19
  else
   ((app? ([] : List GClause) l1).bind fun l3 =>
   (loopF (fun x => ladingref26_Proof.b1 learnt2 x.1 x.2) (0, l3)).bind fun x => match x with
   | .inl x =>
    ladingref26_Proof.j1 learnt2
   | .inr r => some r))
/-- lading/ladingref26.True -/
noncomputable def ladingref26_True [Fuel] (model1 : List Bool) (x2 : Int) : Option Bool :=
 (ladingref26_Lit x2).bind fun l3 =>
 bif (!l3) then
  some false
 else
  ((z64 (-x2)).bind fun v4 =>
  (z64 ((max x2 v4) - 1)).bind fun v5 =>
  bif (ltZ v5 (model1.length : Int)) then
   ((idx model1 v5).bind fun v6 =>
   some (v6 == (ltZ 0 x2)))
  else
   some false)
/-- lading/ladingref26.Holds -/
noncomputable def ladingref26_Holds.b1 [Fuel] (l1 : List GClause) (model2 : List Bool) (i3 : Int) (ok4 : Bool) (k5 : Int) : Option ((Bool × Int) ⊕ (Bool)) :=
 (idx l1 i3).bind fun v6 =>
 bif (ltZ k5 (v6.1.length : Int)) then
  (bif ok4 then
   ((z64 (k5 + 1)).bind fun v7 =>
   some (.inl (true, v7)))
  else
   ((idx l1 i3).bind fun v8 =>
   (idx v8.1 k5).bind fun v9 =>
   (ladingref26_True model2 v9).bind fun t10 =>
   (z64 (k5 + 1)).bind fun v11 =>
   some (.inl (t10, v11))))
 else
  some (.inr ok4)
noncomputable def ladingref26_Holds.j1 [Fuel] (i3 : Int) (ok12 : Bool) : Option ((Int) ⊕ (Bool)) :=
 bif (!ok12) then
  some (.inr false)
 else
  ((z64 (i3 + 1)).bind fun v13 =>
  some (.inl v13))
noncomputable def ladingref26_Holds.b2 [Fuel] (l1 : List GClause) (model2 : List Bool) (i3 : Int) : Option ((Int) ⊕ (Bool)) :=
 bif (ltZ i3 (l1.length : Int)) then
  ((loopF (fun x => ladingref26_Holds.b1 l1 model2 i3 x.1 x.2) (false, 0)).bind fun x =>
  ladingref26_Holds.j1 i3 x)
 else
  some (.inr true)
noncomputable def ladingref26_Holds [Fuel] (l1 : List GClause) (model2 : List Bool) : Option Bool :=
 loopF (fun x => ladingref26_Holds.b2 l1 model2 x) 0
/-- lading/ladingref30.Check -/
noncomputable def ladingref30_Check.j1 [Fuel] (v5 : Int) (v11 : Bool) : Option ((Int) ⊕ ((Unit) ⊕ (Int))) :=
 bif v11 then
  some (.inr (.inr 1))
 else
  ((z64 (v5 + 1)).bind fun v12 =>
  some (.inl v12))
noncomputable def ladingref30_Check.b1 [Fuel] (l1 : List GClause) (p3 : GRefusal) (v5 : Int) : Option ((Int) ⊕ ((Unit) ⊕ (Int))) :=
 bif (ltZ v5 (p3.1.length : Int)) then
  (((idx p3.1 v5).bind fun v6 =>
  bif (ltZ v6 0) then
   some true
  else
   ((idx p3.1 v5).bind fun v7 =>
   bif (leZ (l1.length : Int) v7) then
    some true
   else
    (bif (ltZ 0 v5) then
     ((idx p3.1 v5).bind fun v8 =>
     (z64 (v5 - 1)).bind fun v9 =>
     (idx p3.1 v9).bind fun v10 =>
     some (leZ v8 v10))
    else
     some false))).bind fun x =>
  ladingref30_Check.j1 v5 x)
 else
  some (.inr (.inl ()))
noncomputable def ladingref30_Check.j2 [Fuel] (v16 : Int) (v21 : Bool) : Option ((Int) ⊕ (Int)) :=
 bif v21 then
  some (.inr 19)
 else
  ((z64 (v16 + 1)).bind fun v22 =>
  some (.inl v22))
noncomputable def ladingref30_Check.b2 [Fuel] (l1 : List GClause) (p2 : Int) (p3 : GRefusal) (v16 : Int) : Option ((Int) ⊕ (Int)) :=
 bif (ltZ v16 (p3.2.2.length : Int)) then
  (((idx p3.2.2 v16).bind fun v17 =>
  bif (!eqZ (v17.length : Int) p2) then
   some true
  else
   ((ladingref30_clauses_v2 l1 p3.1 v16).bind fun v18 =>
   (idx p3.2.2 v16).bind fun v19 =>
   (ladingref26_Holds v18 v19).bind fun h20 =>
   some (!h20))).bind fun x =>
  ladingref30_Check.j2 v16 x)
 else
  some (.inr 0)
noncomputable def ladingref30_Check.j3 [Fuel] (l1 : List GClause) (p2 : Int) (p3 : GRefusal) (v15 : Bool) : Option Int :=
 bif v15 then
  some 19
 else
  (loopF (fun x => ladingref30_Check.b2 l1 p2 p3 x) 0)
noncomputable def ladingref30_Check.j4 [Fuel] (l1 : List GClause) (p2 : Int) (p3 : GRefusal) : Option Int :=
 ((ladingref30_clauses_v2 l1 p3.1 (-1)).bind fun v13 =>
 (ladingref26_Proof v13 p3.2.1).bind fun p14 =>
 bif (!eqZ p14 0) then
  some true
 else
  some (!eqZ (p3.2.2.length : Int) (p3.1.length : Int))).bind fun x =>
 ladingref30_Check.j3 l1 p2 p3 x
noncomputable def ladingref30_Check [Fuel] (l1 : List GClause) (p2 : Int) (p3 : GRefusal) : Option Int :=
 (ladingref26_Right l1 p2).bind fun r4 =>
 bif (!r4) then
  some 1
 else
  ((loopF (fun x => ladingref30_Check.b1 l1 p3 x) 0).bind fun x => match x with
  | .inl x =>
   ladingref30_Check.j4 l1 p2 p3
  | .inr r => some r)
/-- lading/ladinglaw30.RefuseTells -/
noncomputable def ladinglaw30_RefuseTells.j1 [Fuel] (l1 : List GClause) (p2 : Int) (p3 : List Int) (p4 : List (List Int)) (p5 : List (List Bool)) (s6 : Bool) (v16 : Bool) : Option Bool :=
 bif s6 then
  (bif v16 then
   ((refuse_Facts l1 p3).bind fun f17 =>
   (ladingref30_Facts l1 p3).bind fun f18 =>
   (ladingref26_Same f17 f18).bind fun s19 =>
   bif s19 then
    ((refuse_Check l1 p2 (p3, p4, p5)).bind fun c20 =>
    (ladingref30_Check l1 p2 (p3, p4, p5)).bind fun c21 =>
    some (eqZ c20 c21))
   else
    some false)
  else
   some false)
 else
  some false
noncomputable def ladinglaw30_RefuseTells.j2 [Fuel] (l1 : List GClause) (p2 : Int) (p3 : List Int) (p4 : List (List Int)) (p5 : List (List Bool)) (s6 : Bool) (v10 : Bool) : Option Bool :=
 bif v10 then
  some s6
 else
  ((refuse_Core l1 p2).bind fun c11 =>
  (ladingref30_Core l1 p2).bind fun c12 =>
  (bif (eqZ c11.2 c12.2) then
   ((ladingref26_Same c11.1.1 c12.1.1).bind fun s13 =>
   bif s13 then
    ((ladingref30_SameLists c11.1.2.1 c12.1.2.1).bind fun s14 =>
    bif s14 then
     ((ladingref30_SameModels c11.1.2.2 c12.1.2.2).bind fun s15 =>
     some s15)
    else
     some false)
   else
    some false)
  else
   some false).bind fun x =>
  ladinglaw30_RefuseTells.j1 l1 p2 p3 p4 p5 s6 x)
noncomputable def ladinglaw30_RefuseTells [Fuel] (l1 : List GClause) (p2 : Int) (p3 : List Int) (p4 : List (List Int)) (p5 : List (List Bool)) : Option Bool :=
 (ladinglaw30_small).bind fun s6 =>
 ((ladinglaw30_light l1 16).bind fun l7 =>
 bif (!l7) then
  some true
 else
  (bif (ltZ 8 p2) then
   some true
  else
   (bif (ltZ 20 (p3.length : Int)) then
    some true
   else
    ((ladinglaw30_lists p4 20).bind fun l8 =>
    bif (!l8) then
     some true
    else
     ((ladinglaw30_models p5 20).bind fun m9 =>
     some (!m9)))))).bind fun x =>
 ladinglaw30_RefuseTells.j2 l1 p2 p3 p4 p5 s6 x
/-- lading/ladinglaw30.open -/
noncomputable def ladinglaw30_open.b1 [Fuel] (n2 : Int) (bits3 : Int) (i6 : Int) (m7 : List Bool) : Option ((Int × List Bool) ⊕ (List Bool)) :=
 bif (ltZ i6 n2) then
  ((shrZ .i64 bits3 (IntKind.u64.wrap i6)).bind fun v8 =>
  (idx m7 i6).bind fun _9 =>
  (idx m7 i6).bind fun v10 =>
  (z64 (i6 + 1)).bind fun v11 =>
  some (.inl (v11, (m7.set i6.toNat (eqZ (andI .i64 v8 1) 1)))))
 else
  some (.inr m7)
noncomputable def ladinglaw30_open.j1 [Fuel] (l1 : List GClause) (bits3 : Int) (m12 : List Bool) : Option ((Int) ⊕ (Bool)) :=
 (clause_Holds l1 m12).bind fun h13 =>
 bif h13 then
  some (.inr true)
 else
  ((z64 (bits3 + 1)).bind fun v14 =>
  some (.inl v14))
noncomputable def ladinglaw30_open.b2 [Fuel] (l1 : List GClause) (n2 : Int) (bits3 : Int) : Option ((Int) ⊕ (Bool)) :=
 (shlZ .i64 1 (IntKind.u64.wrap n2)).bind fun v4 =>
 bif (ltZ bits3 v4) then
  ((msNeed n2 n2).bind fun _5 =>
  (loopF (fun x => ladinglaw30_open.b1 n2 bits3 x.1 x.2) (0, (repT n2 (false : Bool)))).bind fun x =>
  ladinglaw30_open.j1 l1 bits3 x)
 else
  some (.inr false)
noncomputable def ladinglaw30_open [Fuel] (l1 : List GClause) (n2 : Int) : Option Bool :=
 loopF (fun x => ladinglaw30_open.b2 l1 n2 x) 0
/-- lading/ladinglaw30.some -/
noncomputable def ladinglaw30_some.j1 [Fuel] (l1 : List GClause) (core2 : List Int) (i4 : Int) (out5 : List GClause) (v8 : Bool) : Option ((Int × List GClause) ⊕ (List GClause)) :=
 bif v8 then
  ((idx core2 i4).bind fun v9 =>
  (idx l1 v9).bind fun v10 =>
  (app? out5 ([v10] : List GClause)).bind fun l11 =>
  (z64 (i4 + 1)).bind fun v12 =>
  some (.inl (v12, l11)))
 else
  ((z64 (i4 + 1)).bind fun v13 =>
  some (.inl (v13, out5)))
noncomputable def ladinglaw30_some.b1 [Fuel] (l1 : List GClause) (core2 : List Int) (but3 : Int) (i4 : Int) (out5 : List GClause) : Option ((Int × List GClause) ⊕ (List GClause)) :=
 bif (ltZ i4 (core2.length : Int)) then
  ((bif (!eqZ i4 but3) then
   ((idx core2 i4).bind fun v6 =>
   bif (leZ 0 v6) then
    ((idx core2 i4).bind fun v7 =>
    some (ltZ v7 (l1.length : Int)))
   else
    some false)
  else
   some false).bind fun x =>
  ladinglaw30_some.j1 l1 core2 i4 out5 x)
 else
  some (.inr out5)
noncomputable def ladinglaw30_some [Fuel] (l1 : List GClause) (core2 : List Int) (but3 : Int) : Option (List GClause) :=
 loopF (fun x => ladinglaw30_some.b1 l1 core2 but3 x.1 x.2) (0, [])
/-- lading/ladinglaw30.minimal -/
noncomputable def ladinglaw30_minimal.j1 [Fuel] (i6 : Int) (v16 : Bool) : Option ((Int) ⊕ (Bool)) :=
 bif v16 then
  some (.inr false)
 else
  ((z64 (i6 + 1)).bind fun v17 =>
  some (.inl v17))
noncomputable def ladinglaw30_minimal.b1 [Fuel] (l1 : List GClause) (n2 : Int) (core3 : List Int) (i6 : Int) : Option ((Int) ⊕ (Bool)) :=
 bif (ltZ i6 (core3.length : Int)) then
  (((idx core3 i6).bind fun v7 =>
  bif (ltZ v7 0) then
   some true
  else
   ((idx core3 i6).bind fun v8 =>
   bif (leZ (l1.length : Int) v8) then
    some true
   else
    (bif (ltZ 0 i6) then
     ((idx core3 i6).bind fun v9 =>
     (z64 (i6 - 1)).bind fun v10 =>
     (idx core3 v10).bind fun v11 =>
     bif (leZ v9 v11) then
      some true
     else
      ((ladinglaw30_some l1 core3 i6).bind fun s12 =>
      (ladinglaw30_open s12 n2).bind fun o13 =>
      some (!o13)))
    else
     ((ladinglaw30_some l1 core3 i6).bind fun s14 =>
     (ladinglaw30_open s14 n2).bind fun o15 =>
     some (!o15))))).bind fun x =>
  ladinglaw30_minimal.j1 i6 x)
 else
  some (.inr true)
noncomputable def ladinglaw30_minimal [Fuel] (l1 : List GClause) (n2 : Int) (core3 : List Int) : Option Bool :=
 (ladinglaw30_some l1 core3 (-1)).bind fun s4 =>
 (ladinglaw30_open s4 n2).bind fun o5 =>
 bif o5 then
  some false
 else
  (loopF (fun x => ladinglaw30_minimal.b1 l1 n2 core3 x) 0)
/-- lading/ladinglaw30.RefuseLeast -/
noncomputable def ladinglaw30_RefuseLeast.b1 [Fuel] (l1 : List GClause) (c7 : GRefusal × Int) (f12 : List Int) (v13 : Int) (v14 : Bool) (v15 : Int) : Option ((Bool × Int) ⊕ (Bool)) :=
 bif (ltZ v15 (c7.1.1.length : Int)) then
  (bif v14 then
   ((z64 (v15 + 1)).bind fun v16 =>
   some (.inl (true, v16)))
  else
   ((idx c7.1.1 v15).bind fun v17 =>
   (idx l1 v17).bind fun v18 =>
   (idx f12 v13).bind fun v19 =>
   (z64 (v15 + 1)).bind fun v20 =>
   some (.inl ((eqZ v18.2.2.1 v19), v20))))
 else
  some (.inr v14)
noncomputable def ladinglaw30_RefuseLeast.j1 [Fuel] (v13 : Int) (v26 : Bool) : Option ((Int) ⊕ (Bool)) :=
 bif v26 then
  some (.inr false)
 else
  ((z64 (v13 + 1)).bind fun v27 =>
  some (.inl v27))
noncomputable def ladinglaw30_RefuseLeast.j2 [Fuel] (f12 : List Int) (v13 : Int) (v21 : Bool) : Option ((Int) ⊕ (Bool)) :=
 (bif (!v21) then
  some true
 else
  ((idx f12 v13).bind fun v22 =>
  bif (ltZ v22 0) then
   some true
  else
   (bif (ltZ 0 v13) then
    ((idx f12 v13).bind fun v23 =>
    (z64 (v13 - 1)).bind fun v24 =>
    (idx f12 v24).bind fun v25 =>
    some (leZ v23 v25))
   else
    some false))).bind fun x =>
 ladinglaw30_RefuseLeast.j1 v13 x
noncomputable def ladinglaw30_RefuseLeast.b2 [Fuel] (l1 : List GClause) (s3 : Bool) (c7 : GRefusal × Int) (f12 : List Int) (v13 : Int) : Option ((Int) ⊕ (Bool)) :=
 bif (ltZ v13 (f12.length : Int)) then
  ((loopF (fun x => ladinglaw30_RefuseLeast.b1 l1 c7 f12 v13 x.1 x.2) (false, 0)).bind fun x =>
  ladinglaw30_RefuseLeast.j2 f12 v13 x)
 else
  some (.inr s3)
noncomputable def ladinglaw30_RefuseLeast.j3 [Fuel] (l1 : List GClause) (s3 : Bool) (c7 : GRefusal × Int) (v11 : Bool) : Option Bool :=
 bif v11 then
  some false
 else
  ((refuse_Facts l1 c7.1.1).bind fun f12 =>
  loopF (fun x => ladinglaw30_RefuseLeast.b2 l1 s3 c7 f12 x) 0)
noncomputable def ladinglaw30_RefuseLeast.j4 [Fuel] (l1 : List GClause) (p2 : Int) (s3 : Bool) (v6 : Bool) : Option Bool :=
 bif v6 then
  some s3
 else
  ((refuse_Core l1 p2).bind fun c7 =>
  (ladinglaw30_open l1 p2).bind fun o8 =>
  bif (!eqZ c7.2 0) then
   (bif s3 then
    (bif (eqZ (c7.1.1.length : Int) 0) then
     (bif o8 then
      (bif (eqZ c7.2 4) then
       some true
      else
       (bif (!o8) then
        some (eqZ c7.2 6)
       else
        some false))
     else
      (bif (!o8) then
       some (eqZ c7.2 6)
      else
       some false))
    else
     some false)
   else
    some false)
  else
   ((bif o8 then
    some true
   else
    ((ladinglaw30_minimal l1 p2 c7.1.1).bind fun m9 =>
    bif (!m9) then
     some true
    else
     ((refuse_Check l1 p2 c7.1).bind fun c10 =>
     some (!eqZ c10 0)))).bind fun x =>
   ladinglaw30_RefuseLeast.j3 l1 s3 c7 x))
noncomputable def ladinglaw30_RefuseLeast [Fuel] (l1 : List GClause) (p2 : Int) : Option Bool :=
 (ladinglaw30_small).bind fun s3 =>
 ((ladinglaw30_light l1 14).bind fun l4 =>
 bif (!l4) then
  some true
 else
  (bif (ltZ p2 0) then
   some true
  else
   (bif (ltZ 7 p2) then
    some true
   else
    ((clause_Right l1 p2).bind fun r5 =>
    some (!r5))))).bind fun x =>
 ladinglaw30_RefuseLeast.j4 l1 p2 s3 x
/-- lading/ladinglaw30.RefuseChecks -/
noncomputable def ladinglaw30_RefuseChecks.j1 [Fuel] (l1 : List GClause) (p2 : Int) (p3 : List Int) (p4 : List (List Int)) (p5 : List (List Bool)) (p6 : Int) (s7 : Bool) (v16 : Bool) : Option Bool :=
 bif v16 then
  some s7
 else
  ((cut p3 0 p6).bind fun l17 =>
  (app? ([] : List Int) l17).bind fun l18 =>
  (z64 (p6 + 1)).bind fun v19 =>
  (cut p3 v19 (p3.length : Int)).bind fun l20 =>
  (app? l18 l20).bind fun l21 =>
  (cut p5 0 p6).bind fun l22 =>
  (app? ([] : List (List Bool)) l22).bind fun l23 =>
  (z64 (p6 + 1)).bind fun v24 =>
  (cut p5 v24 (p5.length : Int)).bind fun l25 =>
  (app? l23 l25).bind fun l26 =>
  bif s7 then
   ((refuse_Check l1 p2 (l21, p4, l26)).bind fun c27 =>
   bif (eqZ c27 19) then
    ((refuse_Check l1 p2 (p3, [], p5)).bind fun c28 =>
    some (eqZ c28 19))
   else
    some false)
  else
   some false)
noncomputable def ladinglaw30_RefuseChecks.j2 [Fuel] (l1 : List GClause) (p2 : Int) (p3 : List Int) (p4 : List (List Int)) (p5 : List (List Bool)) (p6 : Int) (s7 : Bool) (v15 : Bool) : Option Bool :=
 bif v15 then
  some false
 else
  ((bif (ltZ p6 0) then
   some true
  else
   some (leZ (p3.length : Int) p6)).bind fun x =>
  ladinglaw30_RefuseChecks.j1 l1 p2 p3 p4 p5 p6 s7 x)
noncomputable def ladinglaw30_RefuseChecks.j3 [Fuel] (l1 : List GClause) (p2 : Int) (p3 : List Int) (p4 : List (List Int)) (p5 : List (List Bool)) (p6 : Int) (s7 : Bool) (v12 : Bool) : Option Bool :=
 bif v12 then
  some s7
 else
  ((refuse_Check l1 p2 (p3, p4, p5)).bind fun c13 =>
  bif (!eqZ c13 0) then
   some s7
  else
   (((ladinglaw30_minimal l1 p2 p3).bind fun m14 =>
   bif (!m14) then
    some true
   else
    (bif (!eqZ (p5.length : Int) (p3.length : Int)) then
     some true
    else
     some (eqZ (p4.length : Int) 0))).bind fun x =>
   ladinglaw30_RefuseChecks.j2 l1 p2 p3 p4 p5 p6 s7 x))
noncomputable def ladinglaw30_RefuseChecks [Fuel] (l1 : List GClause) (p2 : Int) (p3 : List Int) (p4 : List (List Int)) (p5 : List (List Bool)) (p6 : Int) : Option Bool :=
 (ladinglaw30_small).bind fun s7 =>
 ((ladinglaw30_light l1 14).bind fun l8 =>
 bif (!l8) then
  some true
 else
  (bif (ltZ p2 0) then
   some true
  else
   (bif (ltZ 7 p2) then
    some true
   else
    ((clause_Right l1 p2).bind fun r9 =>
    bif (!r9) then
     some true
    else
     (bif (ltZ 16 (p3.length : Int)) then
      some true
     else
      ((ladinglaw30_lists p4 16).bind fun l10 =>
      bif (!l10) then
       some true
      else
       ((ladinglaw30_models p5 16).bind fun m11 =>
       some (!m11)))))))).bind fun x =>
 ladinglaw30_RefuseChecks.j3 l1 p2 p3 p4 p5 p6 s7 x
/-- lading/ladinglaw30.RefuseBehind -/
noncomputable def ladinglaw30_RefuseBehind.j1 [Fuel] (l1 : List GClause) (p3 : Int) (s4 : Bool) (l6 : List GClause) (v10 : Bool) : Option Bool :=
 bif v10 then
  some s4
 else
  ((refuse_Core l1 p3).bind fun c11 =>
  (refuse_Core l6 p3).bind fun c12 =>
  bif (!eqZ c11.2 0) then
   (bif s4 then
    (bif (!eqZ c11.2 4) then
     some true
    else
     (bif (eqZ c12.2 4) then
      some true
     else
      (bif (eqZ c12.2 0) then
       some true
      else
       some (eqZ c12.2 6))))
   else
    some false)
  else
   (bif s4 then
    (bif (eqZ c12.2 6) then
     some true
    else
     (bif (eqZ c12.2 0) then
      ((ladingref26_Same c11.1.1 c12.1.1).bind fun s13 =>
      some s13)
     else
      some false))
   else
    some false))
noncomputable def ladinglaw30_RefuseBehind [Fuel] (l1 : List GClause) (p2 : List GClause) (p3 : Int) : Option Bool :=
 (ladinglaw30_small).bind fun s4 =>
 (app? ([] : List GClause) l1).bind fun l5 =>
 (app? l5 p2).bind fun l6 =>
 ((ladinglaw30_light l1 10).bind fun l7 =>
 bif (!l7) then
  some true
 else
  ((ladinglaw30_light p2 5).bind fun l8 =>
  bif (!l8) then
   some true
  else
   (bif (ltZ p3 0) then
    some true
   else
    (bif (ltZ 6 p3) then
     some true
    else
     ((clause_Right l6 p3).bind fun r9 =>
     some (!r9)))))).bind fun x =>
 ladinglaw30_RefuseBehind.j1 l1 p3 s4 l6 x
end Go.Proofs.Ythibbellkcdodaa
