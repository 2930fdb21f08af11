/-
  The functions as plain Lean.
-/
import Derived.Test.YtimiahoaafjmmaaD2
import Derived.Test.YtimiahoaafjmmaaProg
import Derived.KernelRfl
namespace Go.Proofs.Ytimiahoaafjmmaa
open Go.Lad
set_option linter.unusedVariables false
/-- Kind, Fact, Need -/
abbrev GWhy : Type := Int × Int × Int
/-- Lits, Why -/
abbrev GClause : Type := (List Int) × GWhy
/-- lading/ladinglaw28.or -/
noncomputable def ladinglaw28_or [Fuel] (a1 : Int) (b2 : Int) : Option GClause :=
 some (([a1, b2] : List Int), 0, 0, 0)
/-- lading/clause.Right$1$1 -/
noncomputable def clause_Right_1_1 [Fuel] (x1 : Int) (p2 : Int) : Option Bool :=
 bif (eqZ x1 0) then
  some true
 else
  ((z64 (-p2)).bind fun v3 =>
  bif (ltZ x1 v3) then
   some true
  else
   some (ltZ p2 x1))
/-- slices.IndexFunc[[]int,int] -/
noncomputable def slices_IndexFunc_int_int.b1 [Fuel] (s1 : List Int) (p2 : Int) (v3 : Int) : Option ((Int) ⊕ (Int)) :=
 bif (ltZ v3 (s1.length : Int)) then
  ((idx s1 v3).bind fun v4 =>
  (clause_Right_1_1 v4 p2).bind fun v'5 =>
  bif v'5 then
   some (.inr v3)
  else
   ((z64 (v3 + 1)).bind fun v6 =>
   some (.inl v6)))
 else
  some (.inr (-1))
noncomputable def slices_IndexFunc_int_int [Fuel] (s1 : List Int) (p2 : Int) : Option Int :=
 loopF (fun x => slices_IndexFunc_int_int.b1 s1 p2 x) 0
/-- slices.ContainsFunc[[]int,int] -/
noncomputable def slices_ContainsFunc_int_int [Fuel] (s1 : List Int) (p2 : Int) : Option Bool :=
 (slices_IndexFunc_int_int s1 p2).bind fun i3 =>
 some (leZ 0 i3)
/-- lading/clause.Right$1 -/
noncomputable def clause_Right_1 [Fuel] (c1 : GClause) (p2 : Int) : Option Bool :=
 (slices_ContainsFunc_int_int c1.1 p2).bind fun i3 =>
 some i3
/-- slices.IndexFunc[[]lading/api.Clause,lading/api.Clause] -/
noncomputable def slices_IndexFunc_api_Clause_api_Clause.b1 [Fuel] (s1 : List GClause) (p2 : Int) (v3 : Int) : Option ((Int) ⊕ (Int)) :=
 bif (ltZ v3 (s1.length : Int)) then
  ((idx s1 v3).bind fun v4 =>
  (clause_Right_1 v4 p2).bind fun v'5 =>
  bif v'5 then
   some (.inr v3)
  else
   ((z64 (v3 + 1)).bind fun v6 =>
   some (.inl v6)))
 else
  some (.inr (-1))
noncomputable def slices_IndexFunc_api_Clause_api_Clause [Fuel] (s1 : List GClause) (p2 : Int) : Option Int :=
 loopF (fun x => slices_IndexFunc_api_Clause_api_Clause.b1 s1 p2 x) 0
/-- slices.ContainsFunc[[]lading/api.Clause,lading/api.Clause] -/
noncomputable def slices_ContainsFunc_api_Clause_api_Clause [Fuel] (s1 : List GClause) (p2 : Int) : Option Bool :=
 (slices_IndexFunc_api_Clause_api_Clause s1 p2).bind fun c3 =>
 some (leZ 0 c3)
/-- lading/clause.Right -/
noncomputable def clause_Right.j1 [Fuel] (l1 : List GClause) (n2 : Int) (v3 : Bool) : Option Bool :=
 bif v3 then
  some false
 else
  ((slices_ContainsFunc_api_Clause_api_Clause l1 n2).bind fun c4 =>
  some (!c4))
noncomputable def clause_Right [Fuel] (l1 : List GClause) (n2 : Int) : Option Bool :=
 (bif (ltZ n2 0) then
  some true
 else
  (bif (ltZ 2000 n2) then
   some true
  else
   some (ltZ 20000 (l1.length : Int)))).bind fun x =>
 clause_Right.j1 l1 n2 x
/-- lading/prefer.right$1 -/
noncomputable def prefer_right_1 [Fuel] (w1 : Int) (p2 : Int) : Option Bool :=
 bif (eqZ w1 0) then
  some true
 else
  ((z64 (-p2)).bind fun v3 =>
  bif (ltZ w1 v3) then
   some true
  else
   some (ltZ p2 w1))
/-- slices.IndexFunc[[]int,int] -/
noncomputable def slices_IndexFunc_int_int_v2.b1 [Fuel] (s1 : List Int) (p2 : Int) (v3 : Int) : Option ((Int) ⊕ (Int)) :=
 bif (ltZ v3 (s1.length : Int)) then
  ((idx s1 v3).bind fun v4 =>
  (prefer_right_1 v4 p2).bind fun v'5 =>
  bif v'5 then
   some (.inr v3)
  else
   ((z64 (v3 + 1)).bind fun v6 =>
   some (.inl v6)))
 else
  some (.inr (-1))
noncomputable def slices_IndexFunc_int_int_v2 [Fuel] (s1 : List Int) (p2 : Int) : Option Int :=
 loopF (fun x => slices_IndexFunc_int_int_v2.b1 s1 p2 x) 0
/-- slices.ContainsFunc[[]int,int] -/
noncomputable def slices_ContainsFunc_int_int_v2 [Fuel] (s1 : List Int) (p2 : Int) : Option Bool :=
 (slices_IndexFunc_int_int_v2 s1 p2).bind fun v3 =>
 some (leZ 0 v3)
/-- lading/prefer.right -/
noncomputable def prefer_right.j1 [Fuel] (n2 : Int) (wishes3 : List Int) (v5 : Bool) : Option Bool :=
 bif v5 then
  some false
 else
  ((slices_ContainsFunc_int_int_v2 wishes3 n2).bind fun v6 =>
  some (!v6))
noncomputable def prefer_right [Fuel] (l1 : List GClause) (n2 : Int) (wishes3 : List Int) : Option Bool :=
 ((clause_Right l1 n2).bind fun r4 =>
 bif (!r4) then
  some true
 else
  some (ltZ 2000 (wishes3.length : Int))).bind fun x =>
 prefer_right.j1 n2 wishes3 x
/-- lading/solve.Solve$1 -/
noncomputable def solve_Solve_1 [Fuel] (x1 : Int) (p2 : Int) : Option Bool :=
 bif (eqZ x1 0) then
  some true
 else
  ((z64 (-p2)).bind fun v3 =>
  bif (ltZ x1 v3) then
   some true
  else
   some (ltZ p2 x1))
/-- slices.IndexFunc[[]int,int] -/
noncomputable def slices_IndexFunc_int_int_v3.b1 [Fuel] (s1 : List Int) (p2 : Int) (v3 : Int) : Option ((Int) ⊕ (Int)) :=
 bif (ltZ v3 (s1.length : Int)) then
  ((idx s1 v3).bind fun v4 =>
  (solve_Solve_1 v4 p2).bind fun v'5 =>
  bif v'5 then
   some (.inr v3)
  else
   ((z64 (v3 + 1)).bind fun v6 =>
   some (.inl v6)))
 else
  some (.inr (-1))
noncomputable def slices_IndexFunc_int_int_v3 [Fuel] (s1 : List Int) (p2 : Int) : Option Int :=
 loopF (fun x => slices_IndexFunc_int_int_v3.b1 s1 p2 x) 0
/-- slices.ContainsFunc[[]int,int] -/
noncomputable def slices_ContainsFunc_int_int_v3 [Fuel] (s1 : List Int) (p2 : Int) : Option Bool :=
 (slices_IndexFunc_int_int_v3 s1 p2).bind fun v3 =>
 some (leZ 0 v3)
/-- slices.Clone[[]lading/api.Clause,lading/api.Clause] -/
noncomputable def slices_Clone_api_Clause_api_Clause [Fuel] (s1 : List GClause) : Option (List GClause) :=
 bothN s1 (
  some []) (
  (app? ([] : List GClause) s1).bind fun l2 =>
  some l2)
/-- slices.Grow[[]int,int] -/
noncomputable def slices_Grow_int_int [Fuel] (n1 : Int) : Option (List Int) :=
 bif (ltZ n1 0) then
  none
 else
  ((z64 ((0 : Int) - 0)).bind fun v2 =>
  (z64 (n1 - v2)).bind fun v3 =>
  bif (ltZ 0 v3) then
   ((need ((0 : Int) = 0 ∧ (0 : Int) = 0)).bind fun _4 =>
   (i1Need v3).bind fun _5 =>
   (cut (repT v3 (0 : Int)) 0 0).bind fun l6 =>
   some l6)
  else
   some [])
/-- slices.Concat[[]int,int] -/
noncomputable def slices_Concat_int_int.b1 [Fuel] (slices1 : List (List Int)) (size2 : Int) (v3 : Int) : Option ((Int × Int) ⊕ (Int)) :=
 bif (ltZ v3 (slices1.length : Int)) then
  ((idx slices1 v3).bind fun v4 =>
  (z64 (size2 + (v4.length : Int))).bind fun v5 =>
  bif (ltZ v5 0) then
   none
  else
   ((z64 (v3 + 1)).bind fun v6 =>
   some (.inl (v5, v6))))
 else
  some (.inr size2)
noncomputable def slices_Concat_int_int.b2 [Fuel] (slices1 : List (List Int)) (v9 : Int) (newslice10 : List Int) : Option ((Int × List Int) ⊕ (List Int)) :=
 bif (ltZ v9 (slices1.length : Int)) then
  ((idx slices1 v9).bind fun v11 =>
  (app? newslice10 v11).bind fun l12 =>
  (z64 (v9 + 1)).bind fun v13 =>
  some (.inl (v13, l12)))
 else
  some (.inr newslice10)
noncomputable def slices_Concat_int_int.j1 [Fuel] (slices1 : List (List Int)) (size7 : Int) : Option (List Int) :=
 (slices_Grow_int_int size7).bind fun i8 =>
 loopF (fun x => slices_Concat_int_int.b2 slices1 x.1 x.2) (0, i8)
noncomputable def slices_Concat_int_int [Fuel] (slices1 : List (List Int)) : Option (List Int) :=
 (loopF (fun x => slices_Concat_int_int.b1 slices1 x.1 x.2) (0, 0)).bind fun x =>
 slices_Concat_int_int.j1 slices1 x
/-- lading/clause.lit -/
noncomputable def clause_lit [Fuel] (x1 : Int) : Option Bool :=
 bif (!eqZ x1 0) then
  (bif (leZ (-2000) x1) then
   some (leZ x1 2000)
  else
   some false)
 else
  some false
/-- slices.Index[[]int,int] -/
noncomputable def slices_Index_int_int.b1 [Fuel] (s1 : List Int) (p2 : Int) (v3 : Int) : Option ((Int) ⊕ (Int)) :=
 bif (ltZ v3 (s1.length : Int)) then
  ((idx s1 v3).bind fun v4 =>
  bif (eqZ p2 v4) then
   some (.inr v3)
  else
   ((z64 (v3 + 1)).bind fun v5 =>
   some (.inl v5)))
 else
  some (.inr (-1))
noncomputable def slices_Index_int_int [Fuel] (s1 : List Int) (p2 : Int) : Option Int :=
 loopF (fun x => slices_Index_int_int.b1 s1 p2 x) 0
/-- slices.Contains[[]int,int] -/
noncomputable def slices_Contains_int_int [Fuel] (s1 : List Int) (p2 : Int) : Option Bool :=
 (slices_Index_int_int s1 p2).bind fun i3 =>
 some (leZ 0 i3)
/-- (*lading/clause.base).add -/
noncomputable def clause_base_add_v2.j1 [Fuel] (v4 : Int) (own5 : List Int) (v6 : List (Int × List Int)) (v7 : List (List Int)) (v8 : Int) (v11 : Bool) : Option ((Int × (List Int) × (List (Int × List Int)) × List (List Int)) ⊕ ((List (List Int)) × List (Int × List Int))) :=
 bif v11 then
  ((app? own5 ([v8] : List Int)).bind fun l12 =>
  (app? ((lookM v6 v8).getD []) ([(v7.length : Int)] : List Int)).bind fun l13 =>
  (need (v8 = v8)).bind fun _14 =>
  (z64 (v4 + 1)).bind fun v15 =>
  some (.inl (v15, l12, (putM v6 v8 l13), v7)))
 else
  ((z64 (v4 + 1)).bind fun v16 =>
  some (.inl (v16, own5, v6, v7)))
noncomputable def clause_base_add_v2.b1 [Fuel] (lits1 : List Int) (v4 : Int) (own5 : List Int) (v6 : List (Int × List Int)) (v7 : List (List Int)) : Option ((Int × (List Int) × (List (Int × List Int)) × List (List Int)) ⊕ ((List (List Int)) × List (Int × List Int))) :=
 bif (ltZ v4 (lits1.length : Int)) then
  ((idx lits1 v4).bind fun v8 =>
  ((clause_lit v8).bind fun l9 =>
  bif l9 then
   ((slices_Contains_int_int own5 v8).bind fun i10 =>
   some (!i10))
  else
   some false).bind fun x =>
  clause_base_add_v2.j1 v4 own5 v6 v7 v8 x)
 else
  (Option.map Sum.inr ((app? v7 ([own5] : List (List Int))).bind fun l17 =>
  some (l17, v6)))
noncomputable def clause_base_add_v2 [Fuel] (lits1 : List Int) (p2 : List (List Int)) (p3 : List (Int × List Int)) : Option ((List (List Int)) × List (Int × List Int)) :=
 loopF (fun x => clause_base_add_v2.b1 lits1 x.1 x.2.1 x.2.2.1 x.2.2.2) (0, [], p3, p2)
/-- lading/clause.load -/
noncomputable def clause_load.b1 [Fuel] (l1 : List GClause) (v2 : Int) (v3 : List (List Int)) (v4 : List (Int × List Int)) : Option ((Int × (List (List Int)) × List (Int × List Int)) ⊕ ((List (List Int)) × List (Int × List Int))) :=
 bif (ltZ v2 (l1.length : Int)) then
  ((idx l1 v2).bind fun v5 =>
  (clause_base_add_v2 v5.1 v3 v4).bind fun v6 =>
  (z64 (v2 + 1)).bind fun v7 =>
  some (.inl (v7, v6.1, v6.2)))
 else
  some (.inr (v3, v4))
noncomputable def clause_load [Fuel] (l1 : List GClause) : Option ((List (List Int)) × List (Int × List Int)) :=
 loopF (fun x => clause_load.b1 l1 x.1 x.2.1 x.2.2) (0, [], ([] : List (Int × List Int)))
/-- slices.Clone[[]int,int] -/
noncomputable def slices_Clone_int_int [Fuel] (s1 : List Int) : Option (List Int) :=
 bothN s1 (
  some []) (
  (app? ([] : List Int) s1).bind fun l2 =>
  some l2)
/-- (*lading/clause.base).close$1 -/
noncomputable def clause_base_close_1 [Fuel] (x1 : Int) : Option Bool :=
 (clause_lit x1).bind fun l2 =>
 some (!l2)
/-- slices.IndexFunc[[]int,int] -/
noncomputable def slices_IndexFunc_int_int_v4.b1 [Fuel] (s1 : List Int) (v2 : Int) : Option ((Int) ⊕ (Int)) :=
 bif (ltZ v2 (s1.length : Int)) then
  ((idx s1 v2).bind fun v3 =>
  (clause_base_close_1 v3).bind fun v'4 =>
  bif v'4 then
   some (.inr v2)
  else
   ((z64 (v2 + 1)).bind fun v5 =>
   some (.inl v5)))
 else
  some (.inr (-1))
noncomputable def slices_IndexFunc_int_int_v4 [Fuel] (s1 : List Int) : Option Int :=
 loopF (fun x => slices_IndexFunc_int_int_v4.b1 s1 x) 0
/-- slices.DeleteFunc[[]int,int] -/
noncomputable def slices_DeleteFunc_int_int.b1 [Fuel] (i4 : Int) (j5 : Int) (s6 : List Int) : Option ((Int × Int × List Int) ⊕ (List Int)) :=
 bif (ltZ j5 (s6.length : Int)) then
  ((idx s6 j5).bind fun _7 =>
  (idx s6 j5).bind fun v8 =>
  (clause_base_close_1 v8).bind fun v'9 =>
  bif (!v'9) then
   ((idx s6 i4).bind fun _10 =>
   (idx s6 i4).bind fun v11 =>
   (z64 (i4 + 1)).bind fun v12 =>
   (z64 (j5 + 1)).bind fun v13 =>
   some (.inl (v12, v13, (s6.set i4.toNat v8))))
  else
   ((z64 (j5 + 1)).bind fun v14 =>
   some (.inl (i4, v14, s6))))
 else
  (Option.map Sum.inr ((cut s6 i4 (s6.length : Int)).bind fun _15 =>
  (need (i4.toNat ≤ (s6.length : Int).toNat ∧ (s6.length : Int).toNat ≤ s6.length)).bind fun _16 =>
  (cut (clrT s6 i4 (s6.length : Int) 0) 0 i4).bind fun l17 =>
  some l17))
noncomputable def slices_DeleteFunc_int_int [Fuel] (s1 : List Int) : Option (List Int) :=
 (slices_IndexFunc_int_int_v4 s1).bind fun v2 =>
 bif (eqZ v2 (-1)) then
  some s1
 else
  ((z64 (v2 + 1)).bind fun v3 =>
  loopF (fun x => slices_DeleteFunc_int_int.b1 x.1 x.2.1 x.2.2) (v2, v3, s1))
/-- lading/clause.look -/
noncomputable def clause_look.b1 [Fuel] (c1 : List Int) (in2 : List Bool) (left3 : Int) (v4 : Int) : Option ((Int × Int) ⊕ (Int × Bool)) :=
 bif (ltZ v4 (c1.length : Int)) then
  ((idx c1 v4).bind fun v5 =>
  (z64 ((2000 : Int) - v5)).bind fun v6 =>
  (vNeed v6 4001).bind fun _7 =>
  (idx in2 v6).bind fun _8 =>
  (idx in2 v6).bind fun v9 =>
  bif v9 then
   ((z64 (v4 + 1)).bind fun v10 =>
   some (.inl (left3, v10)))
  else
   (bif (!eqZ left3 0) then
    some (.inr (0, false))
   else
    ((z64 (v4 + 1)).bind fun v11 =>
    some (.inl (v5, v11)))))
 else
  some (.inr (left3, true))
noncomputable def clause_look [Fuel] (c1 : List Int) (in2 : List Bool) : Option (Int × Bool) :=
 loopF (fun x => clause_look.b1 c1 in2 x.1 x.2) (0, 0)
/-- (*lading/clause.base).close -/
noncomputable def clause_base_close.b1 [Fuel] (b1 : (List (List Int)) × List (Int × List Int)) (v5 : Int) (v6 : List Int) : Option ((Int × List Int) ⊕ ((List Int) ⊕ (Bool × List Bool))) :=
 bif (ltZ v5 (b1.1.length : Int)) then
  ((idx b1.1 v5).bind fun v7 =>
  bif (eqZ (v7.length : Int) 0) then
   some (.inr (.inr (false, (List.replicate 4001 false))))
  else
   ((idx b1.1 v5).bind fun v8 =>
   bif (eqZ (v8.length : Int) 1) then
    ((idx b1.1 v5).bind fun v9 =>
    (idx v9 0).bind fun v10 =>
    (app? v6 ([v10] : List Int)).bind fun l11 =>
    (z64 (v5 + 1)).bind fun v12 =>
    some (.inl (v12, l11)))
   else
    ((z64 (v5 + 1)).bind fun v13 =>
    some (.inl (v13, v6)))))
 else
  some (.inr (.inl v6))
noncomputable def clause_base_close.j1 [Fuel] (v15 : List Bool) (v24 : Int) (v33 : Int) (v34 : List Int) (l37 : Int × Bool) (v38 : Bool) : Option ((Int × List Int) ⊕ (((List Bool) × List Int) ⊕ (Bool × List Bool))) :=
 bif v38 then
  some (.inr (.inr (false, (v15.set v24.toNat true))))
 else
  (bif l37.2 then
   ((app? v34 ([l37.1] : List Int)).bind fun l39 =>
   (z64 (v33 + 1)).bind fun v40 =>
   some (.inl (v40, l39)))
  else
   ((z64 (v33 + 1)).bind fun v41 =>
   some (.inl (v41, v34))))
noncomputable def clause_base_close.b2 [Fuel] (b1 : (List (List Int)) × List (Int × List Int)) (v15 : List Bool) (v24 : Int) (v32 : Int) (v33 : Int) (v34 : List Int) : Option ((Int × List Int) ⊕ (((List Bool) × List Int) ⊕ (Bool × List Bool))) :=
 bif (ltZ v33 (((lookM b1.2 v32).getD []).length : Int)) then
  ((idx ((lookM b1.2 v32).getD []) v33).bind fun v35 =>
  (idx b1.1 v35).bind fun v36 =>
  (clause_look v36 (v15.set v24.toNat true)).bind fun l37 =>
  (bif l37.2 then
   some (eqZ l37.1 0)
  else
   some false).bind fun x =>
  clause_base_close.j1 v15 v24 v33 v34 l37 x)
 else
  some (.inr (.inl ((v15.set v24.toNat true), v34)))
noncomputable def clause_base_close.b3 [Fuel] (b1 : (List (List Int)) × List (Int × List Int)) (v15 : List Bool) (v16 : List Int) : Option (((List Bool) × List Int) ⊕ (Bool × List Bool)) :=
 bif (ltZ 0 (v16.length : Int)) then
  ((idx v16 0).bind fun _17 =>
  (idx v16 0).bind fun v18 =>
  (cut v16 1 (v16.length : Int)).bind fun l19 =>
  (z64 ((2000 : Int) + v18)).bind fun v20 =>
  (vNeed v20 4001).bind fun _21 =>
  (idx v15 v20).bind fun _22 =>
  (idx v15 v20).bind fun v23 =>
  bif v23 then
   some (.inl (v15, l19))
  else
   ((z64 ((2000 : Int) + v18)).bind fun v24 =>
   (vNeed v24 4001).bind fun _25 =>
   (idx v15 v24).bind fun _26 =>
   (idx v15 v24).bind fun v27 =>
   (z64 ((2000 : Int) - v18)).bind fun v28 =>
   (vNeed v28 4001).bind fun _29 =>
   (idx (v15.set v24.toNat true) v28).bind fun _30 =>
   (idx (v15.set v24.toNat true) v28).bind fun v31 =>
   bif v31 then
    some (.inr (false, (v15.set v24.toNat true)))
   else
    ((z64 (-v18)).bind fun v32 =>
    loopF (fun x => clause_base_close.b2 b1 v15 v24 v32 x.1 x.2) (0, l19))))
 else
  some (.inr (true, v15))
noncomputable def clause_base_close.j2 [Fuel] (b1 : (List (List Int)) × List (Int × List Int)) (v14 : List Int) : Option (Bool × List Bool) :=
 loopF (fun x => clause_base_close.b3 b1 x.1 x.2) ((List.replicate 4001 false), v14)
noncomputable def clause_base_close [Fuel] (b1 : (List (List Int)) × List (Int × List Int)) (p2 : List Int) : Option (Bool × List Bool) :=
 (slices_Clone_int_int p2).bind fun i3 =>
 (slices_DeleteFunc_int_int i3).bind fun i4 =>
 (loopF (fun x => clause_base_close.b1 b1 x.1 x.2) (0, i4)).bind fun x => match x with
 | .inl x =>
  clause_base_close.j2 b1 x
 | .inr r => some r
/-- lading/clause.Propagate -/
noncomputable def clause_Propagate.b1 [Fuel] (c4 : Bool × List Bool) (v5 : Int) (out6 : List Int) : Option ((Int × List Int) ⊕ (Bool × List Int)) :=
 bif (ltZ v5 4001) then
  ((vNeed v5 4001).bind fun _7 =>
  (idx c4.2 v5).bind fun _8 =>
  (idx c4.2 v5).bind fun v9 =>
  bif v9 then
   ((z64 (v5 - 2000)).bind fun v10 =>
   (app? out6 ([v10] : List Int)).bind fun l11 =>
   (z64 (v5 + 1)).bind fun v12 =>
   some (.inl (v12, l11)))
  else
   ((z64 (v5 + 1)).bind fun v13 =>
   some (.inl (v13, out6))))
 else
  some (.inr (true, out6))
noncomputable def clause_Propagate [Fuel] (l1 : List GClause) (lits2 : List Int) : Option (Bool × List Int) :=
 (clause_load l1).bind fun l3 =>
 (clause_base_close l3 lits2).bind fun c4 =>
 bif (!c4.1) then
  some (false, [])
 else
  (loopF (fun x => clause_Propagate.b1 c4 x.1 x.2) (0, []))
/-- cmp.isNaN[int] -/
noncomputable def cmp_isNaN_int [Fuel] (x1 : Int) : Option Bool :=
 some (!eqZ x1 x1)
/-- cmp.Less[int] -/
noncomputable def cmp_Less_int [Fuel] (x1 : Int) (y2 : Int) : Option Bool :=
 (cmp_isNaN_int x1).bind fun i3 =>
 bif i3 then
  ((cmp_isNaN_int y2).bind fun i4 =>
  bif (!i4) then
   some true
  else
   some (ltZ x1 y2))
 else
  some (ltZ x1 y2)
/-- slices.isNaN[int] -/
noncomputable def slices_isNaN_int [Fuel] (x1 : Int) : Option Bool :=
 some (!eqZ x1 x1)
/-- slices.BinarySearch[[]int,int] -/
noncomputable def slices_BinarySearch_int_int.b1 [Fuel] (x1 : List Int) (target2 : Int) (i3 : Int) (j4 : Int) : Option ((Int × Int) ⊕ (Int)) :=
 bif (ltZ i3 j4) then
  ((z64 (i3 + j4)).bind fun v5 =>
  (shrZ .u64 (IntKind.u64.wrap v5) 1).bind fun v6 =>
  (idx x1 (IntKind.i64.wrap v6)).bind fun v7 =>
  (cmp_Less_int v7 target2).bind fun i8 =>
  bif i8 then
   ((z64 ((IntKind.i64.wrap v6) + 1)).bind fun v9 =>
   some (.inl (v9, j4)))
  else
   some (.inl (i3, (IntKind.i64.wrap v6))))
 else
  some (.inr i3)
noncomputable def slices_BinarySearch_int_int.j1 [Fuel] (x1 : List Int) (target2 : Int) (i10 : Int) : Option (Int × Bool) :=
 bif (ltZ i10 (x1.length : Int)) then
  ((idx x1 i10).bind fun v11 =>
  bif (eqZ v11 target2) then
   some (i10, true)
  else
   ((idx x1 i10).bind fun v12 =>
   (slices_isNaN_int v12).bind fun i13 =>
   bif i13 then
    ((slices_isNaN_int target2).bind fun i14 =>
    some (i10, i14))
   else
    some (i10, false)))
 else
  some (i10, false)
noncomputable def slices_BinarySearch_int_int [Fuel] (x1 : List Int) (target2 : Int) : Option (Int × Bool) :=
 (loopF (fun x => slices_BinarySearch_int_int.b1 x1 target2 x.1 x.2) (0, (x1.length : Int))).bind fun x =>
 slices_BinarySearch_int_int.j1 x1 target2 x
/-- lading/solve.open -/
noncomputable def solve_open.j1 [Fuel] (v3 : Int) (v9 : Bool) : Option ((Int) ⊕ (Int)) :=
 bif v9 then
  some (.inr v3)
 else
  ((z64 (v3 + 1)).bind fun v10 =>
  some (.inl v10))
noncomputable def solve_open.b1 [Fuel] (closure1 : List Int) (n2 : Int) (v3 : Int) : Option ((Int) ⊕ (Int)) :=
 bif (ltZ v3 n2) then
  ((z64 (v3 + 1)).bind fun v4 =>
  (slices_BinarySearch_int_int closure1 v4).bind fun i5 =>
  (z64 (-v3)).bind fun v6 =>
  (z64 (v6 - 1)).bind fun v7 =>
  (slices_BinarySearch_int_int closure1 v7).bind fun i8 =>
  (bif (!i5.2) then
   some (!i8.2)
  else
   some false).bind fun x =>
  solve_open.j1 v3 x)
 else
  some (.inr n2)
noncomputable def solve_open [Fuel] (closure1 : List Int) (n2 : Int) : Option Int :=
 loopF (fun x => solve_open.b1 closure1 n2 x) 0
/-- lading/solve.Solve -/
noncomputable def solve_Solve.b1 [Fuel] (v10 : List Int) (v13 : Int) (v14 : List Int) : Option ((Int × List Int) ⊕ (List Int)) :=
 bif (ltZ v13 (v10.length : Int)) then
  ((idx v10 v13).bind fun _15 =>
  (idx v10 v13).bind fun v16 =>
  (z64 (-v16)).bind fun v17 =>
  (app? v14 ([v17] : List Int)).bind fun l18 =>
  (z64 (v13 + 1)).bind fun v19 =>
  some (.inl (v19, l18)))
 else
  some (.inr v14)
noncomputable def solve_Solve.j1 [Fuel] (v8 : List GClause) (v9 : List (List Int)) (v10 : List Int) (v20 : List Int) : Option (((List GClause) × (List (List Int)) × List Int) ⊕ (((List GClause) × (List (List Int)) × List Int) ⊕ ((List Bool) × (List (List Int)) × Int))) :=
 (app? v9 ([v20] : List (List Int))).bind fun l21 =>
 (app? v8 ([(v20, 0, 0, 0)] : List GClause)).bind fun l22 =>
 bif (eqZ (v10.length : Int) 0) then
  some (.inr (.inr ([], l21, 26)))
 else
  ((z64 ((v10.length : Int) - 1)).bind fun v23 =>
  (cut v10 0 v23).bind fun l24 =>
  some (.inr (.inl (l22, l21, l24))))
noncomputable def solve_Solve.b2 [Fuel] (p2 : Int) (p12 : Bool × List Int) (v33 : Int) (v34 : List Bool) : Option ((Int × List Bool) ⊕ (((List GClause) × (List (List Int)) × List Int) ⊕ ((List Bool) × (List (List Int)) × Int))) :=
 bif (ltZ v33 p2) then
  ((z64 (v33 + 1)).bind fun v35 =>
  (slices_BinarySearch_int_int p12.2 v35).bind fun i36 =>
  (idx v34 v33).bind fun _37 =>
  (idx v34 v33).bind fun v38 =>
  (z64 (v33 + 1)).bind fun v39 =>
  some (.inl (v39, (v34.set v33.toNat i36.2))))
 else
  some (.inr (.inr (v34, [], 0)))
noncomputable def solve_Solve.j2 [Fuel] (p2 : Int) (p12 : Bool × List Int) (v25 : List GClause) (v26 : List (List Int)) (v27 : List Int) : Option (((List GClause) × (List (List Int)) × List Int) ⊕ ((List Bool) × (List (List Int)) × Int)) :=
 (solve_open p12.2 p2).bind fun o28 =>
 bif (ltZ o28 p2) then
  ((z64 (-o28)).bind fun v29 =>
  (z64 (v29 - 1)).bind fun v30 =>
  (app? v27 ([v30] : List Int)).bind fun l31 =>
  some (.inl (v25, v26, l31)))
 else
  ((msNeed p2 p2).bind fun _32 =>
  loopF (fun x => solve_Solve.b2 p2 p12 x.1 x.2) (0, (repT p2 (false : Bool))))
noncomputable def solve_Solve.b3 [Fuel] (p2 : Int) (p3 : List Int) (v8 : List GClause) (v9 : List (List Int)) (v10 : List Int) : Option (((List GClause) × (List (List Int)) × List Int) ⊕ ((List Bool) × (List (List Int)) × Int)) :=
 (slices_Concat_int_int ([p3, v10] : List (List Int))).bind fun i11 =>
 (clause_Propagate v8 i11).bind fun p12 =>
 (bif (!p12.1) then
  (bif (eqZ (v9.length : Int) 4000) then
   some (.inr (.inr ([], [], 6)))
  else
   ((loopF (fun x => solve_Solve.b1 v10 x.1 x.2) (0, [])).bind fun x =>
   solve_Solve.j1 v8 v9 v10 x))
 else
  some (.inl (v8, v9, v10))).bind fun x => match x with
 | .inl x =>
  solve_Solve.j2 p2 p12 x.1 x.2.1 x.2.2
 | .inr r => some r
noncomputable def solve_Solve.j3 [Fuel] (l1 : List GClause) (p2 : Int) (p3 : List Int) (v6 : Bool) : Option ((List Bool) × (List (List Int)) × Int) :=
 bif v6 then
  some ([], [], 1)
 else
  ((slices_Clone_api_Clause_api_Clause l1).bind fun c7 =>
  loopF (fun x => solve_Solve.b3 p2 p3 x.1 x.2.1 x.2.2) (c7, [], []))
noncomputable def solve_Solve [Fuel] (l1 : List GClause) (p2 : Int) (p3 : List Int) : Option ((List Bool) × (List (List Int)) × Int) :=
 ((clause_Right l1 p2).bind fun r4 =>
 bif (!r4) then
  some true
 else
  ((slices_ContainsFunc_int_int_v3 p3 p2).bind fun v5 =>
  some v5)).bind fun x =>
 solve_Solve.j3 l1 p2 p3 x
/-- lading/solve.Solve -/
noncomputable def solve_Solve_v2.b1 [Fuel] (v10 : List Int) (v13 : Int) (v14 : List Int) : Option ((Int × List Int) ⊕ (List Int)) :=
 bif (ltZ v13 (v10.length : Int)) then
  ((idx v10 v13).bind fun _15 =>
  (idx v10 v13).bind fun v16 =>
  (z64 (-v16)).bind fun v17 =>
  (app? v14 ([v17] : List Int)).bind fun l18 =>
  (z64 (v13 + 1)).bind fun v19 =>
  some (.inl (v19, l18)))
 else
  some (.inr v14)
noncomputable def solve_Solve_v2.j1 [Fuel] (v8 : List GClause) (v9 : List (List Int)) (v10 : List Int) (v20 : List Int) : Option (((List GClause) × (List (List Int)) × List Int) ⊕ (((List GClause) × (List (List Int)) × List Int) ⊕ ((List (List Int)) × Int × List Bool))) :=
 (app? v9 ([v20] : List (List Int))).bind fun l21 =>
 (app? v8 ([(v20, 0, 0, 0)] : List GClause)).bind fun l22 =>
 bif (eqZ (v10.length : Int) 0) then
  some (.inr (.inr (l21, 26, [])))
 else
  ((z64 ((v10.length : Int) - 1)).bind fun v23 =>
  (cut v10 0 v23).bind fun l24 =>
  some (.inr (.inl (l22, l21, l24))))
noncomputable def solve_Solve_v2.b2 [Fuel] (p2 : Int) (p12 : Bool × List Int) (v33 : Int) (v34 : List Bool) : Option ((Int × List Bool) ⊕ (((List GClause) × (List (List Int)) × List Int) ⊕ ((List (List Int)) × Int × List Bool))) :=
 bif (ltZ v33 p2) then
  ((z64 (v33 + 1)).bind fun v35 =>
  (slices_BinarySearch_int_int p12.2 v35).bind fun i36 =>
  (idx v34 v33).bind fun _37 =>
  (idx v34 v33).bind fun v38 =>
  (z64 (v33 + 1)).bind fun v39 =>
  some (.inl (v39, (v34.set v33.toNat i36.2))))
 else
  some (.inr (.inr ([], 0, v34)))
noncomputable def solve_Solve_v2.j2 [Fuel] (p2 : Int) (p12 : Bool × List Int) (v25 : List GClause) (v26 : List (List Int)) (v27 : List Int) : Option (((List GClause) × (List (List Int)) × List Int) ⊕ ((List (List Int)) × Int × List Bool)) :=
 (solve_open p12.2 p2).bind fun o28 =>
 bif (ltZ o28 p2) then
  ((z64 (-o28)).bind fun v29 =>
  (z64 (v29 - 1)).bind fun v30 =>
  (app? v27 ([v30] : List Int)).bind fun l31 =>
  some (.inl (v25, v26, l31)))
 else
  ((msNeed p2 p2).bind fun _32 =>
  loopF (fun x => solve_Solve_v2.b2 p2 p12 x.1 x.2) (0, (repT p2 (false : Bool))))
noncomputable def solve_Solve_v2.b3 [Fuel] (p2 : Int) (p3 : List Int) (v8 : List GClause) (v9 : List (List Int)) (v10 : List Int) : Option (((List GClause) × (List (List Int)) × List Int) ⊕ ((List (List Int)) × Int × List Bool)) :=
 (slices_Concat_int_int ([p3, v10] : List (List Int))).bind fun i11 =>
 (clause_Propagate v8 i11).bind fun p12 =>
 (bif (!p12.1) then
  (bif (eqZ (v9.length : Int) 4000) then
   some (.inr (.inr ([], 6, [])))
  else
   ((loopF (fun x => solve_Solve_v2.b1 v10 x.1 x.2) (0, [])).bind fun x =>
   solve_Solve_v2.j1 v8 v9 v10 x))
 else
  some (.inl (v8, v9, v10))).bind fun x => match x with
 | .inl x =>
  solve_Solve_v2.j2 p2 p12 x.1 x.2.1 x.2.2
 | .inr r => some r
noncomputable def solve_Solve_v2.j3 [Fuel] (l1 : List GClause) (p2 : Int) (p3 : List Int) (v6 : Bool) : Option ((List (List Int)) × Int × List Bool) :=
 bif v6 then
  some ([], 1, [])
 else
  ((slices_Clone_api_Clause_api_Clause l1).bind fun c7 =>
  loopF (fun x => solve_Solve_v2.b3 p2 p3 x.1 x.2.1 x.2.2) (c7, [], []))
noncomputable def solve_Solve_v2 [Fuel] (l1 : List GClause) (p2 : Int) (p3 : List Int) : Option ((List (List Int)) × Int × List Bool) :=
 ((clause_Right l1 p2).bind fun r4 =>
 bif (!r4) then
  some true
 else
  ((slices_ContainsFunc_int_int_v3 p3 p2).bind fun v5 =>
  some v5)).bind fun x =>
 solve_Solve_v2.j3 l1 p2 p3 x
/-- lading/prefer.Best -/
noncomputable def prefer_Best.b1 [Fuel] (l1 : List GClause) (p2 : Int) (p3 : List Int) (v6 : Int) (v7 : List Int) (v8 : List Bool) (v9 : List (List (List Int))) : Option ((Int × (List Int) × (List Bool) × List (List (List Int))) ⊕ (((List Int) × (List Bool) × List (List (List Int))) ⊕ ((List Bool) × (List Bool) × (List (List (List Int))) × Int))) :=
 bif (ltZ v6 (p3.length : Int)) then
  ((idx p3 v6).bind fun v10 =>
  (slices_Clone_int_int v7).bind fun i11 =>
  (app? i11 ([v10] : List Int)).bind fun l12 =>
  (solve_Solve_v2 l1 p2 l12).bind fun v13 =>
  bif (eqZ v13.2.1 0) then
   ((app? v8 ([true] : List Bool)).bind fun l14 =>
   (app? v9 ([[]] : List (List (List Int)))).bind fun l15 =>
   (z64 (v6 + 1)).bind fun v16 =>
   some (.inl (v16, l12, l14, l15)))
  else
   (bif (eqZ v13.2.1 26) then
    ((z64 (-v10)).bind fun v17 =>
    (app? v7 ([v17] : List Int)).bind fun l18 =>
    (app? v8 ([false] : List Bool)).bind fun l19 =>
    (app? v9 ([v13.1] : List (List (List Int)))).bind fun l20 =>
    (z64 (v6 + 1)).bind fun v21 =>
    some (.inl (v21, l18, l19, l20)))
   else
    some (.inr (.inr ([], [], [], v13.2.1)))))
 else
  some (.inr (.inl (v7, v8, v9)))
noncomputable def prefer_Best.j1 [Fuel] (l1 : List GClause) (p2 : Int) (v22 : List Int) (v23 : List Bool) (v24 : List (List (List Int))) : Option ((List Bool) × (List Bool) × (List (List (List Int))) × Int) :=
 (solve_Solve_v2 l1 p2 v22).bind fun v25 =>
 bif (!eqZ v25.2.1 0) then
  some ([], [], [], v25.2.1)
 else
  some (v25.2.2, v23, v24, 0)
noncomputable def prefer_Best [Fuel] (l1 : List GClause) (p2 : Int) (p3 : List Int) : Option ((List Bool) × (List Bool) × (List (List (List Int))) × Int) :=
 (prefer_right l1 p2 p3).bind fun r4 =>
 bif (!r4) then
  some ([], [], [], 1)
 else
  ((solve_Solve l1 p2 []).bind fun s5 =>
  bif (!eqZ s5.2.2 0) then
   some ([], [], [], s5.2.2)
  else
   ((loopF (fun x => prefer_Best.b1 l1 p2 p3 x.1 x.2.1 x.2.2.1 x.2.2.2) (0, [], ([] : List Bool), ([] : List (List (List Int))))).bind fun x => match x with
   | .inl x =>
    prefer_Best.j1 l1 p2 x.1 x.2.1 x.2.2
   | .inr r => some r))
/-- lading/ladingref28.Bools -/
noncomputable def ladingref28_Bools.b1 [Fuel] (a1 : List Bool) (b2 : List Bool) (i3 : Int) : Option ((Int) ⊕ (Bool)) :=
 bif (ltZ i3 (a1.length : Int)) then
  ((idx a1 i3).bind fun v4 =>
  (idx b2 i3).bind fun v5 =>
  bif (!(v4 == v5)) then
   some (.inr false)
  else
   ((z64 (i3 + 1)).bind fun v6 =>
   some (.inl v6)))
 else
  some (.inr true)
noncomputable def ladingref28_Bools [Fuel] (a1 : List Bool) (b2 : List Bool) : Option Bool :=
 bif (!eqZ (a1.length : Int) (b2.length : Int)) then
  some false
 else
  (loopF (fun x => ladingref28_Bools.b1 a1 b2 x) 0)
/-- lading/clause.Holds$1$1 -/
noncomputable def clause_Holds_1_1 [Fuel] (x1 : Int) (p2 : Int) (p3 : List Bool) : Option Bool :=
 bif (ltZ 0 x1) then
  (bif (leZ x1 p2) then
   ((z64 (x1 - 1)).bind fun v4 =>
   (idx p3 v4).bind fun v5 =>
   bif v5 then
    some true
   else
    (bif (ltZ x1 0) then
     ((z64 (-p2)).bind fun v6 =>
     bif (leZ v6 x1) then
      ((z64 (-x1)).bind fun v7 =>
      (z64 (v7 - 1)).bind fun v8 =>
      (idx p3 v8).bind fun v9 =>
      some (!v9))
     else
      some false)
    else
     some false))
  else
   (bif (ltZ x1 0) then
    ((z64 (-p2)).bind fun v10 =>
    bif (leZ v10 x1) then
     ((z64 (-x1)).bind fun v11 =>
     (z64 (v11 - 1)).bind fun v12 =>
     (idx p3 v12).bind fun v13 =>
     some (!v13))
    else
     some false)
   else
    some false))
 else
  (bif (ltZ x1 0) then
   ((z64 (-p2)).bind fun v14 =>
   bif (leZ v14 x1) then
    ((z64 (-x1)).bind fun v15 =>
    (z64 (v15 - 1)).bind fun v16 =>
    (idx p3 v16).bind fun v17 =>
    some (!v17))
   else
    some false)
  else
   some false)
/-- slices.IndexFunc[[]int,int] -/
noncomputable def slices_IndexFunc_int_int_v5.b1 [Fuel] (s1 : List Int) (p2 : Int) (p3 : List Bool) (v4 : Int) : Option ((Int) ⊕ (Int)) :=
 bif (ltZ v4 (s1.length : Int)) then
  ((idx s1 v4).bind fun v5 =>
  (clause_Holds_1_1 v5 p2 p3).bind fun v'6 =>
  bif v'6 then
   some (.inr v4)
  else
   ((z64 (v4 + 1)).bind fun v7 =>
   some (.inl v7)))
 else
  some (.inr (-1))
noncomputable def slices_IndexFunc_int_int_v5 [Fuel] (s1 : List Int) (p2 : Int) (p3 : List Bool) : Option Int :=
 loopF (fun x => slices_IndexFunc_int_int_v5.b1 s1 p2 p3 x) 0
/-- slices.ContainsFunc[[]int,int] -/
noncomputable def slices_ContainsFunc_int_int_v4 [Fuel] (s1 : List Int) (p2 : Int) (p3 : List Bool) : Option Bool :=
 (slices_IndexFunc_int_int_v5 s1 p2 p3).bind fun v4 =>
 some (leZ 0 v4)
/-- lading/clause.Holds$1 -/
noncomputable def clause_Holds_1 [Fuel] (c1 : GClause) (p2 : Int) (p3 : List Bool) : Option Bool :=
 (slices_ContainsFunc_int_int_v4 c1.1 p2 p3).bind fun v4 =>
 some (!v4)
/-- slices.IndexFunc[[]lading/api.Clause,lading/api.Clause] -/
noncomputable def slices_IndexFunc_api_Clause_api_Clause_v2.b1 [Fuel] (s1 : List GClause) (p2 : Int) (p3 : List Bool) (v4 : Int) : Option ((Int) ⊕ (Int)) :=
 bif (ltZ v4 (s1.length : Int)) then
  ((idx s1 v4).bind fun v5 =>
  (clause_Holds_1 v5 p2 p3).bind fun v'6 =>
  bif v'6 then
   some (.inr v4)
  else
   ((z64 (v4 + 1)).bind fun v7 =>
   some (.inl v7)))
 else
  some (.inr (-1))
noncomputable def slices_IndexFunc_api_Clause_api_Clause_v2 [Fuel] (s1 : List GClause) (p2 : Int) (p3 : List Bool) : Option Int :=
 loopF (fun x => slices_IndexFunc_api_Clause_api_Clause_v2.b1 s1 p2 p3 x) 0
/-- slices.ContainsFunc[[]lading/api.Clause,lading/api.Clause] -/
noncomputable def slices_ContainsFunc_api_Clause_api_Clause_v2 [Fuel] (s1 : List GClause) (p2 : Int) (p3 : List Bool) : Option Bool :=
 (slices_IndexFunc_api_Clause_api_Clause_v2 s1 p2 p3).bind fun v4 =>
 some (leZ 0 v4)
/-- lading/clause.Holds -/
noncomputable def clause_Holds [Fuel] (l1 : List GClause) (model2 : List Bool) : Option Bool :=
 (slices_ContainsFunc_api_Clause_api_Clause_v2 l1 (min (model2.length : Int) 2000) model2).bind fun v3 =>
 some (!v3)
/-- lading/prefer.holds -/
noncomputable def prefer_holds.j1 [Fuel] (model1 : List Bool) (lit2 : Int) (v7 : Bool) : Option Bool :=
 bif v7 then
  ((z64 (-lit2)).bind fun v8 =>
  (z64 (v8 - 1)).bind fun v9 =>
  (idx model1 v9).bind fun v10 =>
  some (!v10))
 else
  some false
noncomputable def prefer_holds.j2 [Fuel] (model1 : List Bool) (lit2 : Int) (v3 : Bool) : Option Bool :=
 bif v3 then
  ((z64 (lit2 - 1)).bind fun v4 =>
  (idx model1 v4).bind fun v5 =>
  some v5)
 else
  ((bif (ltZ lit2 0) then
   ((z64 (-(model1.length : Int))).bind fun v6 =>
   some (leZ v6 lit2))
  else
   some false).bind fun x =>
  prefer_holds.j1 model1 lit2 x)
noncomputable def prefer_holds [Fuel] (model1 : List Bool) (lit2 : Int) : Option Bool :=
 (bif (ltZ 0 lit2) then
  some (leZ lit2 (model1.length : Int))
 else
  some false).bind fun x =>
 prefer_holds.j2 model1 lit2 x
/-- slices.Clone[[]lading/api.Clause,lading/api.Clause] -/
noncomputable def slices_Clone_api_Clause_api_Clause_v2 [Fuel] (s1 : List GClause) : Option (List GClause) :=
 bothN s1 (
  some []) (
  (app? ([] : List GClause) s1).bind fun l2 =>
  some l2)
/-- slices.IndexFunc[[]int,int] -/
noncomputable def slices_IndexFunc_int_int_v6.b1 [Fuel] (s1 : List Int) (v2 : Int) : Option ((Int) ⊕ (Int)) :=
 bif (ltZ v2 (s1.length : Int)) then
  ((idx s1 v2).bind fun v3 =>
  (clause_lit v3).bind fun l4 =>
  bif l4 then
   some (.inr v2)
  else
   ((z64 (v2 + 1)).bind fun v5 =>
   some (.inl v5)))
 else
  some (.inr (-1))
noncomputable def slices_IndexFunc_int_int_v6 [Fuel] (s1 : List Int) : Option Int :=
 loopF (fun x => slices_IndexFunc_int_int_v6.b1 s1 x) 0
/-- slices.ContainsFunc[[]int,int] -/
noncomputable def slices_ContainsFunc_int_int_v5 [Fuel] (s1 : List Int) : Option Bool :=
 (slices_IndexFunc_int_int_v6 s1).bind fun v2 =>
 some (leZ 0 v2)
/-- (*lading/clause.base).follows -/
noncomputable def clause_base_follows.b1 [Fuel] (lits2 : List Int) (v3 : Int) (not4 : List Int) : Option ((Int × List Int) ⊕ (List Int)) :=
 bif (ltZ v3 (lits2.length : Int)) then
  ((idx lits2 v3).bind fun v5 =>
  (clause_lit v5).bind fun l6 =>
  bif l6 then
   ((z64 (-v5)).bind fun v7 =>
   (app? not4 ([v7] : List Int)).bind fun l8 =>
   (z64 (v3 + 1)).bind fun v9 =>
   some (.inl (v9, l8)))
  else
   ((z64 (v3 + 1)).bind fun v10 =>
   some (.inl (v10, not4))))
 else
  some (.inr not4)
noncomputable def clause_base_follows.j1 [Fuel] (b1 : (List (List Int)) × List (Int × List Int)) (not11 : List Int) : Option Bool :=
 (clause_base_close b1 not11).bind fun c12 =>
 some (!c12.1)
noncomputable def clause_base_follows [Fuel] (b1 : (List (List Int)) × List (Int × List Int)) (lits2 : List Int) : Option Bool :=
 (loopF (fun x => clause_base_follows.b1 lits2 x.1 x.2) (0, [])).bind fun x =>
 clause_base_follows.j1 b1 x
/-- lading/clause.Proof -/
noncomputable def clause_Proof.b1 [Fuel] (learnt2 : List (List Int)) (v8 : Int) (v9 : List (List Int)) (v10 : List (Int × List Int)) : Option ((Int × (List (List Int)) × List (Int × List Int)) ⊕ (Int)) :=
 bif (ltZ v8 (learnt2.length : Int)) then
  ((idx learnt2 v8).bind fun v11 =>
  (clause_base_follows (v9, v10) v11).bind fun f12 =>
  bif (!f12) then
   some (.inr 19)
  else
   ((clause_base_add_v2 v11 v9 v10).bind fun v13 =>
   (z64 (v8 + 1)).bind fun v14 =>
   some (.inl (v14, v13.1, v13.2))))
 else
  some (.inr 0)
noncomputable def clause_Proof.j1 [Fuel] (l1 : List GClause) (learnt2 : List (List Int)) (v6 : Bool) : Option Int :=
 bif v6 then
  some 19
 else
  ((clause_load l1).bind fun l7 =>
  loopF (fun x => clause_Proof.b1 learnt2 x.1 x.2.1 x.2.2) (0, l7.1, l7.2))
noncomputable def clause_Proof [Fuel] (l1 : List GClause) (learnt2 : List (List Int)) : Option Int :=
 bif (ltZ 4000 (learnt2.length : Int)) then
  some 6
 else
  ((bif (eqZ (learnt2.length : Int) 0) then
   some true
  else
   ((z64 ((learnt2.length : Int) - 1)).bind fun v3 =>
   (idx learnt2 v3).bind fun v4 =>
   (slices_ContainsFunc_int_int_v5 v4).bind fun v5 =>
   some v5)).bind fun x =>
  clause_Proof.j1 l1 learnt2 x)
/-- lading/prefer.Check -/
noncomputable def prefer_Check.j1 [Fuel] (p5 : List Bool) (p6 : List (List (List Int))) (v11 : Int) (v12 : List GClause) (v13 : Int) (v18 : Bool) : Option ((Int × List GClause) ⊕ (Int)) :=
 bif v18 then
  some (.inr 19)
 else
  ((idx p5 v11).bind fun v19 =>
  bif v19 then
   ((app? v12 ([(([v13] : List Int), 0, 0, 0)] : List GClause)).bind fun l20 =>
   (z64 (v11 + 1)).bind fun v21 =>
   some (.inl (v21, l20)))
  else
   ((slices_Clone_api_Clause_api_Clause_v2 v12).bind fun v22 =>
   (app? v22 ([(([v13] : List Int), 0, 0, 0)] : List GClause)).bind fun l23 =>
   (idx p6 v11).bind fun v24 =>
   (clause_Proof l23 v24).bind fun p25 =>
   bif (!eqZ p25 0) then
    some (.inr 19)
   else
    ((z64 (-v13)).bind fun v26 =>
    (app? v12 ([(([v26] : List Int), 0, 0, 0)] : List GClause)).bind fun l27 =>
    (z64 (v11 + 1)).bind fun v28 =>
    some (.inl (v28, l27)))))
noncomputable def prefer_Check.b1 [Fuel] (p3 : List Int) (p4 : List Bool) (p5 : List Bool) (p6 : List (List (List Int))) (v11 : Int) (v12 : List GClause) : Option ((Int × List GClause) ⊕ (Int)) :=
 bif (ltZ v11 (p3.length : Int)) then
  ((idx p3 v11).bind fun v13 =>
  ((idx p5 v11).bind fun v14 =>
  (prefer_holds p4 v13).bind fun h15 =>
  bif (!(v14 == h15)) then
   some true
  else
   ((idx p5 v11).bind fun v16 =>
   bif v16 then
    ((idx p6 v11).bind fun v17 =>
    some (ltZ 0 (v17.length : Int)))
   else
    some false)).bind fun x =>
  prefer_Check.j1 p5 p6 v11 v12 v13 x)
 else
  some (.inr 0)
noncomputable def prefer_Check.j2 [Fuel] (l1 : List GClause) (p3 : List Int) (p4 : List Bool) (p5 : List Bool) (p6 : List (List (List Int))) (v9 : Bool) : Option Int :=
 bif v9 then
  some 19
 else
  ((slices_Clone_api_Clause_api_Clause l1).bind fun c10 =>
  loopF (fun x => prefer_Check.b1 p3 p4 p5 p6 x.1 x.2) (0, c10))
noncomputable def prefer_Check [Fuel] (l1 : List GClause) (p2 : Int) (p3 : List Int) (p4 : List Bool) (p5 : List Bool) (p6 : List (List (List Int))) : Option Int :=
 (prefer_right l1 p2 p3).bind fun r7 =>
 bif (!r7) then
  some 1
 else
  ((bif (!eqZ (p4.length : Int) p2) then
   some true
  else
   ((clause_Holds l1 p4).bind fun h8 =>
   bif (!h8) then
    some true
   else
    (bif (!eqZ (p5.length : Int) (p3.length : Int)) then
     some true
    else
     some (!eqZ (p6.length : Int) (p3.length : Int))))).bind fun x =>
  prefer_Check.j2 l1 p3 p4 p5 p6 x)
/-- lading/ladinglaw28.is -/
noncomputable def ladinglaw28_is [Fuel] (l1 : List GClause) (wishes2 : List Int) (model3 : List Bool) (taken4 : List Bool) : Option Bool :=
 (prefer_Best l1 2 wishes2).bind fun b5 =>
 bif (eqZ b5.2.2.2 0) then
  ((ladingref28_Bools b5.1 model3).bind fun b6 =>
  bif b6 then
   ((ladingref28_Bools b5.2.1 taken4).bind fun b7 =>
   bif b7 then
    (bif (eqZ (b5.2.2.1.length : Int) (wishes2.length : Int)) then
     ((prefer_Check l1 2 wishes2 b5.1 b5.2.1 b5.2.2.1).bind fun c8 =>
     some (eqZ c8 0))
    else
     some false)
   else
    some false)
  else
   some false)
 else
  some false
/-- lading/prefer.Compare -/
noncomputable def prefer_Compare.j1 [Fuel] (v4 : Int) (v9 : Bool) : Option ((Int) ⊕ (Int)) :=
 bif v9 then
  some (.inr (-1))
 else
  ((z64 (v4 + 1)).bind fun v10 =>
  some (.inl v10))
noncomputable def prefer_Compare.j2 [Fuel] (v4 : Int) (h6 : Bool) (h7 : Bool) (v8 : Bool) : Option ((Int) ⊕ (Int)) :=
 bif v8 then
  some (.inr 1)
 else
  ((bif h7 then
   some (!h6)
  else
   some false).bind fun x =>
  prefer_Compare.j1 v4 x)
noncomputable def prefer_Compare.b1 [Fuel] (wishes1 : List Int) (a2 : List Bool) (b3 : List Bool) (v4 : Int) : Option ((Int) ⊕ (Int)) :=
 bif (ltZ v4 (wishes1.length : Int)) then
  ((idx wishes1 v4).bind fun v5 =>
  (prefer_holds a2 v5).bind fun h6 =>
  (prefer_holds b3 v5).bind fun h7 =>
  (bif h6 then
   some (!h7)
  else
   some false).bind fun x =>
  prefer_Compare.j2 v4 h6 h7 x)
 else
  some (.inr 0)
noncomputable def prefer_Compare [Fuel] (wishes1 : List Int) (a2 : List Bool) (b3 : List Bool) : Option Int :=
 loopF (fun x => prefer_Compare.b1 wishes1 a2 b3 x) 0
/-- lading/ladinglaw28.small -/
noncomputable def ladinglaw28_small.j1 [Fuel] (b3 : (List Bool) × (List Bool) × (List (List (List Int))) × Int) (b4 : (List Bool) × (List Bool) × (List (List (List Int))) × Int) (v8 : Bool) (v11 : Bool) : Option Bool :=
 bif v8 then
  (bif v11 then
   (bif (eqZ b3.2.2.2 26) then
    (bif (eqZ b4.2.2.2 1) then
     ((prefer_Compare ([1, 2] : List Int) ([true, false] : List Bool) ([false, true] : List Bool)).bind fun c12 =>
     some (eqZ c12 1))
    else
     some false)
   else
    some false)
  else
   some false)
 else
  some false
noncomputable def ladinglaw28_small.j2 [Fuel] (o1 : GClause) (o2 : GClause) (b3 : (List Bool) × (List Bool) × (List (List (List Int))) × Int) (b4 : (List Bool) × (List Bool) × (List (List (List Int))) × Int) (v8 : Bool) : Option Bool :=
 ((ladinglaw28_is ([o1] : List GClause) [] ([false, false] : List Bool) []).bind fun i9 =>
 bif i9 then
  ((ladinglaw28_is ([o2, (([(-1)] : List Int), 0, 0, 0)] : List GClause) ([1, 2] : List Int) ([false, true] : List Bool) ([false, true] : List Bool)).bind fun i10 =>
  some i10)
 else
  some false).bind fun x =>
 ladinglaw28_small.j1 b3 b4 v8 x
noncomputable def ladinglaw28_small [Fuel] : Option Bool :=
 (ladinglaw28_or (-1) (-2)).bind fun o1 =>
 (ladinglaw28_or (-1) (-2)).bind fun o2 =>
 (prefer_Best ([(([1] : List Int), 0, 0, 0), (([(-1)] : List Int), 0, 0, 0)] : List GClause) 1 []).bind fun b3 =>
 (prefer_Best ([o1] : List GClause) 2 ([3] : List Int)).bind fun b4 =>
 ((ladinglaw28_is ([o1] : List GClause) ([1, 2] : List Int) ([true, false] : List Bool) ([true, false] : List Bool)).bind fun i5 =>
 bif i5 then
  ((ladinglaw28_is ([o1] : List GClause) ([2, 1] : List Int) ([false, true] : List Bool) ([true, false] : List Bool)).bind fun i6 =>
  bif i6 then
   ((ladinglaw28_is ([o1] : List GClause) ([(-1), 2, 1] : List Int) ([false, true] : List Bool) ([true, true, false] : List Bool)).bind fun i7 =>
   some i7)
  else
   some false)
 else
  some false).bind fun x =>
 ladinglaw28_small.j2 o1 o2 b3 b4 x
/-- lading/ladingref28.Few -/
noncomputable def ladingref28_Few.j1 [Fuel] (l1 : List GClause) (n2 : Int) (wishes3 : List Int) (i4 : Int) (v5 : Bool) : Option ((Int) ⊕ (Bool)) :=
 bif v5 then
  ((idx l1 i4).bind fun v6 =>
  bif (ltZ 6 (v6.1.length : Int)) then
   some (.inr false)
  else
   ((z64 (i4 + 1)).bind fun v7 =>
   some (.inl v7)))
 else
  (Option.map Sum.inr (bif (leZ (l1.length : Int) 20) then
   (bif (leZ n2 10) then
    some (leZ (wishes3.length : Int) 12)
   else
    some false)
  else
   some false))
noncomputable def ladingref28_Few.b1 [Fuel] (l1 : List GClause) (n2 : Int) (wishes3 : List Int) (i4 : Int) : Option ((Int) ⊕ (Bool)) :=
 (bif (ltZ i4 (l1.length : Int)) then
  some (ltZ i4 21)
 else
  some false).bind fun x =>
 ladingref28_Few.j1 l1 n2 wishes3 i4 x
noncomputable def ladingref28_Few [Fuel] (l1 : List GClause) (n2 : Int) (wishes3 : List Int) : Option Bool :=
 loopF (fun x => ladingref28_Few.b1 l1 n2 wishes3 x) 0
/-- lading/ladinglaw28.light -/
noncomputable def ladinglaw28_light.b1 [Fuel] (p1 : List (List (List Int))) (i2 : Int) (k5 : Int) : Option ((Int) ⊕ ((Int) ⊕ (Bool))) :=
 (idx p1 i2).bind fun v6 =>
 bif (ltZ k5 (v6.length : Int)) then
  ((idx p1 i2).bind fun v7 =>
  (idx v7 k5).bind fun v8 =>
  bif (ltZ 10 (v8.length : Int)) then
   some (.inr (.inr false))
  else
   ((z64 (k5 + 1)).bind fun v9 =>
   some (.inl v9)))
 else
  (Option.map Sum.inr ((z64 (i2 + 1)).bind fun v10 =>
  some (.inl v10)))
noncomputable def ladinglaw28_light.j1 [Fuel] (p1 : List (List (List Int))) (i2 : Int) (v3 : Bool) : Option ((Int) ⊕ (Bool)) :=
 bif v3 then
  ((idx p1 i2).bind fun v4 =>
  bif (ltZ 30 (v4.length : Int)) then
   some (.inr false)
  else
   (loopF (fun x => ladinglaw28_light.b1 p1 i2 x) 0))
 else
  some (.inr (leZ (p1.length : Int) 14))
noncomputable def ladinglaw28_light.b2 [Fuel] (p1 : List (List (List Int))) (i2 : Int) : Option ((Int) ⊕ (Bool)) :=
 (bif (ltZ i2 (p1.length : Int)) then
  some (ltZ i2 15)
 else
  some false).bind fun x =>
 ladinglaw28_light.j1 p1 i2 x
noncomputable def ladinglaw28_light [Fuel] (p1 : List (List (List Int))) : Option Bool :=
 loopF (fun x => ladinglaw28_light.b2 p1 x) 0
/-- lading/ladingref26.Right -/
noncomputable def ladingref26_Right.j1 [Fuel] (k5 : Int) (v10 : Bool) : Option ((Int) ⊕ ((Int) ⊕ (Bool))) :=
 bif v10 then
  some (.inr (.inr false))
 else
  ((z64 (k5 + 1)).bind fun v11 =>
  some (.inl v11))
noncomputable def ladingref26_Right.b1 [Fuel] (l1 : List GClause) (n2 : Int) (i4 : Int) (k5 : Int) : Option ((Int) ⊕ ((Int) ⊕ (Bool))) :=
 (idx l1 i4).bind fun v6 =>
 bif (ltZ k5 (v6.1.length : Int)) then
  ((idx l1 i4).bind fun v7 =>
  (idx v7.1 k5).bind fun v8 =>
  (bif (eqZ v8 0) then
   some true
  else
   ((z64 (-n2)).bind fun v9 =>
   bif (ltZ v8 v9) then
    some true
   else
    some (ltZ n2 v8))).bind fun x =>
  ladingref26_Right.j1 k5 x)
 else
  (Option.map Sum.inr ((z64 (i4 + 1)).bind fun v12 =>
  some (.inl v12)))
noncomputable def ladingref26_Right.b2 [Fuel] (l1 : List GClause) (n2 : Int) (i4 : Int) : Option ((Int) ⊕ (Bool)) :=
 bif (ltZ i4 (l1.length : Int)) then
  (loopF (fun x => ladingref26_Right.b1 l1 n2 i4 x) 0)
 else
  some (.inr true)
noncomputable def ladingref26_Right.j2 [Fuel] (l1 : List GClause) (n2 : Int) (v3 : Bool) : Option Bool :=
 bif v3 then
  some false
 else
  (loopF (fun x => ladingref26_Right.b2 l1 n2 x) 0)
noncomputable def ladingref26_Right [Fuel] (l1 : List GClause) (n2 : Int) : Option Bool :=
 (bif (ltZ n2 0) then
  some true
 else
  (bif (ltZ 2000 n2) then
   some true
  else
   some (ltZ 20000 (l1.length : Int)))).bind fun x =>
 ladingref26_Right.j2 l1 n2 x
/-- lading/ladingref28.Right -/
noncomputable def ladingref28_Right.j1 [Fuel] (i6 : Int) (v11 : Bool) : Option ((Int) ⊕ (Bool)) :=
 bif v11 then
  some (.inr false)
 else
  ((z64 (i6 + 1)).bind fun v12 =>
  some (.inl v12))
noncomputable def ladingref28_Right.b1 [Fuel] (n2 : Int) (wishes3 : List Int) (i6 : Int) : Option ((Int) ⊕ (Bool)) :=
 bif (ltZ i6 (wishes3.length : Int)) then
  (((idx wishes3 i6).bind fun v7 =>
  bif (eqZ v7 0) then
   some true
  else
   ((idx wishes3 i6).bind fun v8 =>
   (z64 (-n2)).bind fun v9 =>
   bif (ltZ v8 v9) then
    some true
   else
    ((idx wishes3 i6).bind fun v10 =>
    some (ltZ n2 v10)))).bind fun x =>
  ladingref28_Right.j1 i6 x)
 else
  some (.inr true)
noncomputable def ladingref28_Right.j2 [Fuel] (n2 : Int) (wishes3 : List Int) (v5 : Bool) : Option Bool :=
 bif v5 then
  some false
 else
  (loopF (fun x => ladingref28_Right.b1 n2 wishes3 x) 0)
noncomputable def ladingref28_Right [Fuel] (l1 : List GClause) (n2 : Int) (wishes3 : List Int) : Option Bool :=
 ((ladingref26_Right l1 n2).bind fun r4 =>
 bif (!r4) then
  some true
 else
  some (ltZ 2000 (wishes3.length : Int))).bind fun x =>
 ladingref28_Right.j2 n2 wishes3 x
/-- lading/ladingref26.set -/
noncomputable def ladingref26_set [Fuel] : Option (List Bool) :=
 (msNeed 4001 4001).bind fun _1 =>
 some (repT 4001 (false : Bool))
/-- lading/ladingref26.Lit -/
noncomputable def ladingref26_Lit [Fuel] (x1 : Int) : Option Bool :=
 bif (!eqZ x1 0) then
  (bif (leZ (-2000) x1) then
   some (leZ x1 2000)
  else
   some false)
 else
  some false
/-- lading/ladingref26.open -/
noncomputable def ladingref26_open.j1 [Fuel] (left3 : Int) (i4 : Int) (v5 : Int) (v9 : Bool) : Option ((Int × Int) ⊕ (Int × Bool)) :=
 bif v9 then
  ((z64 (i4 + 1)).bind fun v10 =>
  some (.inl (left3, v10)))
 else
  (bif (!eqZ left3 0) then
   some (.inr (0, false))
  else
   ((z64 (i4 + 1)).bind fun v11 =>
   some (.inl (v5, v11))))
noncomputable def ladingref26_open.b1 [Fuel] (in1 : List Bool) (lits2 : List Int) (left3 : Int) (i4 : Int) : Option ((Int × Int) ⊕ (Int × Bool)) :=
 bif (ltZ i4 (lits2.length : Int)) then
  ((idx lits2 i4).bind fun v5 =>
  ((ladingref26_Lit v5).bind fun l6 =>
  bif (!l6) then
   some true
  else
   ((z64 ((2000 : Int) - v5)).bind fun v7 =>
   (idx in1 v7).bind fun v8 =>
   bif v8 then
    some true
   else
    some (eqZ v5 left3))).bind fun x =>
  ladingref26_open.j1 left3 i4 v5 x)
 else
  some (.inr (left3, true))
noncomputable def ladingref26_open [Fuel] (in1 : List Bool) (lits2 : List Int) : Option (Int × Bool) :=
 loopF (fun x => ladingref26_open.b1 in1 lits2 x.1 x.2) (0, 0)
/-- lading/ladingref26.closure -/
noncomputable def ladingref26_closure.b1 [Fuel] (p2 : List Int) (v4 : Int) (v5 : List Bool) : Option ((Int × List Bool) ⊕ (List Bool)) :=
 bif (ltZ v4 (p2.length : Int)) then
  ((idx p2 v4).bind fun v6 =>
  (ladingref26_Lit v6).bind fun l7 =>
  bif l7 then
   ((idx p2 v4).bind fun v8 =>
   (z64 ((2000 : Int) + v8)).bind fun v9 =>
   (idx v5 v9).bind fun _10 =>
   (idx v5 v9).bind fun v11 =>
   (z64 (v4 + 1)).bind fun v12 =>
   some (.inl (v12, (v5.set v9.toNat true))))
  else
   ((z64 (v4 + 1)).bind fun v13 =>
   some (.inl (v13, v5))))
 else
  some (.inr v5)
noncomputable def ladingref26_closure.b2 [Fuel] (l1 : List GClause) (v17 : Bool) (v18 : Int) (v19 : List Bool) : Option ((Bool × Int × List Bool) ⊕ ((Bool × List Bool) ⊕ ((List Bool) ⊕ ((List Bool) × Bool)))) :=
 bif (ltZ v18 (l1.length : Int)) then
  ((idx l1 v18).bind fun v20 =>
  (ladingref26_open v19 v20.1).bind fun o21 =>
  bif (!o21.2) then
   ((z64 (v18 + 1)).bind fun v22 =>
   some (.inl (v17, v22, v19)))
  else
   (bif (eqZ o21.1 0) then
    some (.inr (.inr (.inr (v19, false))))
   else
    ((z64 ((2000 : Int) + o21.1)).bind fun v23 =>
    (idx v19 v23).bind fun _24 =>
    (idx v19 v23).bind fun v25 =>
    bif (!v25) then
     ((z64 ((2000 : Int) + o21.1)).bind fun v26 =>
     (idx v19 v26).bind fun _27 =>
     (idx v19 v26).bind fun v28 =>
     (z64 (v18 + 1)).bind fun v29 =>
     some (.inl (true, v29, (v19.set v26.toNat true))))
    else
     ((z64 (v18 + 1)).bind fun v30 =>
     some (.inl (v17, v30, v19))))))
 else
  some (.inr (.inl (v17, v19)))
noncomputable def ladingref26_closure.b3 [Fuel] (l1 : List GClause) (v15 : Bool) (v16 : List Bool) : Option ((Bool × List Bool) ⊕ ((List Bool) ⊕ ((List Bool) × Bool))) :=
 bif v15 then
  (loopF (fun x => ladingref26_closure.b2 l1 x.1 x.2.1 x.2.2) (false, 0, v16))
 else
  some (.inr (.inl v16))
noncomputable def ladingref26_closure.j1 [Fuel] (v31 : List Bool) (v32 : Int) (v39 : Bool) : Option ((Int) ⊕ ((List Bool) × Bool)) :=
 bif v39 then
  some (.inr (v31, false))
 else
  ((z64 (v32 + 1)).bind fun v40 =>
  some (.inl v40))
noncomputable def ladingref26_closure.b4 [Fuel] (v31 : List Bool) (v32 : Int) : Option ((Int) ⊕ ((List Bool) × Bool)) :=
 bif (leZ v32 2000) then
  (((z64 ((2000 : Int) + v32)).bind fun v33 =>
  (idx v31 v33).bind fun _34 =>
  (idx v31 v33).bind fun v35 =>
  bif v35 then
   ((z64 ((2000 : Int) - v32)).bind fun v36 =>
   (idx v31 v36).bind fun _37 =>
   (idx v31 v36).bind fun v38 =>
   some v38)
  else
   some false).bind fun x =>
  ladingref26_closure.j1 v31 v32 x)
 else
  some (.inr (v31, true))
noncomputable def ladingref26_closure.j2 [Fuel] (v31 : List Bool) : Option ((List Bool) × Bool) :=
 loopF (fun x => ladingref26_closure.b4 v31 x) 1
noncomputable def ladingref26_closure.j3 [Fuel] (l1 : List GClause) (v14 : List Bool) : Option ((List Bool) × Bool) :=
 (loopF (fun x => ladingref26_closure.b3 l1 x.1 x.2) (true, v14)).bind fun x => match x with
 | .inl x =>
  ladingref26_closure.j2 x
 | .inr r => some r
noncomputable def ladingref26_closure [Fuel] (l1 : List GClause) (p2 : List Int) : Option ((List Bool) × Bool) :=
 (ladingref26_set).bind fun s3 =>
 (loopF (fun x => ladingref26_closure.b1 p2 x.1 x.2) (0, s3)).bind fun x =>
 ladingref26_closure.j3 l1 x
/-- lading/ladingref26.Propagate -/
noncomputable def ladingref26_Propagate.b1 [Fuel] (c3 : (List Bool) × Bool) (x4 : Int) (out5 : List Int) : Option ((Int × List Int) ⊕ (Bool × List Int)) :=
 bif (leZ x4 2000) then
  ((z64 ((2000 : Int) + x4)).bind fun v6 =>
  (idx c3.1 v6).bind fun v7 =>
  bif v7 then
   ((app? out5 ([x4] : List Int)).bind fun l8 =>
   (z64 (x4 + 1)).bind fun v9 =>
   some (.inl (v9, l8)))
  else
   ((z64 (x4 + 1)).bind fun v10 =>
   some (.inl (v10, out5))))
 else
  some (.inr (true, out5))
noncomputable def ladingref26_Propagate [Fuel] (l1 : List GClause) (lits2 : List Int) : Option (Bool × List Int) :=
 (ladingref26_closure l1 lits2).bind fun c3 =>
 bif (!c3.2) then
  some (false, [])
 else
  (loopF (fun x => ladingref26_Propagate.b1 c3 x.1 x.2) ((-2000), []))
/-- lading/ladingref27.has -/
noncomputable def ladingref27_has.b1 [Fuel] (l1 : List Int) (x2 : Int) (i3 : Int) : Option ((Int) ⊕ (Bool)) :=
 bif (ltZ i3 (l1.length : Int)) then
  ((idx l1 i3).bind fun v4 =>
  bif (eqZ v4 x2) then
   some (.inr true)
  else
   ((z64 (i3 + 1)).bind fun v5 =>
   some (.inl v5)))
 else
  some (.inr false)
noncomputable def ladingref27_has [Fuel] (l1 : List Int) (x2 : Int) : Option Bool :=
 loopF (fun x => ladingref27_has.b1 l1 x2 x) 0
/-- lading/ladingref27.Solve -/
noncomputable def ladingref27_Solve.j1 [Fuel] (v5 : Int) (v10 : Bool) : Option ((Int) ⊕ ((Unit) ⊕ ((List Bool) × (List (List Int)) × Int))) :=
 bif v10 then
  some (.inr (.inr ([], [], 1)))
 else
  ((z64 (v5 + 1)).bind fun v11 =>
  some (.inl v11))
noncomputable def ladingref27_Solve.b1 [Fuel] (p2 : Int) (p3 : List Int) (v5 : Int) : Option ((Int) ⊕ ((Unit) ⊕ ((List Bool) × (List (List Int)) × Int))) :=
 bif (ltZ v5 (p3.length : Int)) then
  (((idx p3 v5).bind fun v6 =>
  bif (eqZ v6 0) then
   some true
  else
   ((idx p3 v5).bind fun v7 =>
   (z64 (-p2)).bind fun v8 =>
   bif (ltZ v7 v8) then
    some true
   else
    ((idx p3 v5).bind fun v9 =>
    some (ltZ p2 v9)))).bind fun x =>
  ladingref27_Solve.j1 v5 x)
 else
  some (.inr (.inl ()))
noncomputable def ladingref27_Solve.b2 [Fuel] (v15 : List Int) (v19 : Int) (v20 : List Int) : Option ((Int × List Int) ⊕ (List Int)) :=
 bif (ltZ v19 (v15.length : Int)) then
  ((idx v15 v19).bind fun _21 =>
  (idx v15 v19).bind fun v22 =>
  (z64 (-v22)).bind fun v23 =>
  (app? v20 ([v23] : List Int)).bind fun l24 =>
  (z64 (v19 + 1)).bind fun v25 =>
  some (.inl (v25, l24)))
 else
  some (.inr v20)
noncomputable def ladingref27_Solve.j2 [Fuel] (v13 : List GClause) (v14 : List (List Int)) (v15 : List Int) (v26 : List Int) : Option (((List GClause) × (List (List Int)) × List Int) ⊕ (((List GClause) × (List (List Int)) × List Int) ⊕ ((List Bool) × (List (List Int)) × Int))) :=
 (app? v14 ([v26] : List (List Int))).bind fun l27 =>
 (app? v13 ([(v26, 0, 0, 0)] : List GClause)).bind fun l28 =>
 bif (ltZ 4000 (l27.length : Int)) then
  some (.inr (.inr ([], [], 6)))
 else
  (bif (eqZ (v15.length : Int) 0) then
   some (.inr (.inr ([], l27, 26)))
  else
   ((z64 ((v15.length : Int) - 1)).bind fun v29 =>
   (cut v15 0 v29).bind fun l30 =>
   some (.inr (.inl (l28, l27, l30)))))
noncomputable def ladingref27_Solve.j3 [Fuel] (v34 : Int) (v40 : Bool) : Option ((Int) ⊕ (Int)) :=
 bif v40 then
  ((z64 (v34 + 1)).bind fun v41 =>
  some (.inl v41))
 else
  some (.inr v34)
noncomputable def ladingref27_Solve.b3 [Fuel] (p2 : Int) (p18 : Bool × List Int) (v34 : Int) : Option ((Int) ⊕ (Int)) :=
 (bif (ltZ v34 p2) then
  ((z64 (v34 + 1)).bind fun v35 =>
  (ladingref27_has p18.2 v35).bind fun h36 =>
  bif h36 then
   some true
  else
   ((z64 (-v34)).bind fun v37 =>
   (z64 (v37 - 1)).bind fun v38 =>
   (ladingref27_has p18.2 v38).bind fun h39 =>
   some h39))
 else
  some false).bind fun x =>
 ladingref27_Solve.j3 v34 x
noncomputable def ladingref27_Solve.b4 [Fuel] (p2 : Int) (p18 : Bool × List Int) (v47 : Int) (v48 : List Bool) : Option ((Int × List Bool) ⊕ (((List GClause) × (List (List Int)) × List Int) ⊕ ((List Bool) × (List (List Int)) × Int))) :=
 bif (ltZ v47 p2) then
  ((z64 (v47 + 1)).bind fun v49 =>
  (ladingref27_has p18.2 v49).bind fun h50 =>
  (idx v48 v47).bind fun _51 =>
  (idx v48 v47).bind fun v52 =>
  (z64 (v47 + 1)).bind fun v53 =>
  some (.inl (v53, (v48.set v47.toNat h50))))
 else
  some (.inr (.inr (v48, [], 0)))
noncomputable def ladingref27_Solve.j4 [Fuel] (p2 : Int) (p18 : Bool × List Int) (v31 : List GClause) (v32 : List (List Int)) (v33 : List Int) (v42 : Int) : Option (((List GClause) × (List (List Int)) × List Int) ⊕ ((List Bool) × (List (List Int)) × Int)) :=
 bif (ltZ v42 p2) then
  ((z64 (-v42)).bind fun v43 =>
  (z64 (v43 - 1)).bind fun v44 =>
  (app? v33 ([v44] : List Int)).bind fun l45 =>
  some (.inl (v31, v32, l45)))
 else
  ((msNeed p2 p2).bind fun _46 =>
  loopF (fun x => ladingref27_Solve.b4 p2 p18 x.1 x.2) (0, (repT p2 (false : Bool))))
noncomputable def ladingref27_Solve.j5 [Fuel] (p2 : Int) (p18 : Bool × List Int) (v31 : List GClause) (v32 : List (List Int)) (v33 : List Int) : Option (((List GClause) × (List (List Int)) × List Int) ⊕ ((List Bool) × (List (List Int)) × Int)) :=
 (loopF (fun x => ladingref27_Solve.b3 p2 p18 x) 0).bind fun x =>
 ladingref27_Solve.j4 p2 p18 v31 v32 v33 x
noncomputable def ladingref27_Solve.b5 [Fuel] (p2 : Int) (p3 : List Int) (v13 : List GClause) (v14 : List (List Int)) (v15 : List Int) : Option (((List GClause) × (List (List Int)) × List Int) ⊕ ((List Bool) × (List (List Int)) × Int)) :=
 (app? ([] : List Int) p3).bind fun l16 =>
 (app? l16 v15).bind fun l17 =>
 (ladingref26_Propagate v13 l17).bind fun p18 =>
 (bif (!p18.1) then
  ((loopF (fun x => ladingref27_Solve.b2 v15 x.1 x.2) (0, [])).bind fun x =>
  ladingref27_Solve.j2 v13 v14 v15 x)
 else
  some (.inl (v13, v14, v15))).bind fun x => match x with
 | .inl x =>
  ladingref27_Solve.j5 p2 p18 x.1 x.2.1 x.2.2
 | .inr r => some r
noncomputable def ladingref27_Solve.j6 [Fuel] (l1 : List GClause) (p2 : Int) (p3 : List Int) : Option ((List Bool) × (List (List Int)) × Int) :=
 (app? ([] : List GClause) l1).bind fun l12 =>
 loopF (fun x => ladingref27_Solve.b5 p2 p3 x.1 x.2.1 x.2.2) (l12, [], [])
noncomputable def ladingref27_Solve [Fuel] (l1 : List GClause) (p2 : Int) (p3 : List Int) : Option ((List Bool) × (List (List Int)) × Int) :=
 (ladingref26_Right l1 p2).bind fun r4 =>
 bif (!r4) then
  some ([], [], 1)
 else
  ((loopF (fun x => ladingref27_Solve.b1 p2 p3 x) 0).bind fun x => match x with
  | .inl x =>
   ladingref27_Solve.j6 l1 p2 p3
  | .inr r => some r)
/-- lading/ladingref28.Fixed -/
noncomputable def ladingref28_Fixed.b1 [Fuel] (wishes1 : List Int) (taken2 : List Bool) (k3 : Int) (i4 : Int) (out5 : List Int) : Option ((Int × List Int) ⊕ (List Int)) :=
 bif (ltZ i4 k3) then
  ((idx taken2 i4).bind fun v6 =>
  bif v6 then
   ((idx wishes1 i4).bind fun v7 =>
   (app? out5 ([v7] : List Int)).bind fun l8 =>
   (z64 (i4 + 1)).bind fun v9 =>
   some (.inl (v9, l8)))
  else
   ((idx wishes1 i4).bind fun v10 =>
   (z64 (-v10)).bind fun v11 =>
   (app? out5 ([v11] : List Int)).bind fun l12 =>
   (z64 (i4 + 1)).bind fun v13 =>
   some (.inl (v13, l12))))
 else
  some (.inr out5)
noncomputable def ladingref28_Fixed [Fuel] (wishes1 : List Int) (taken2 : List Bool) (k3 : Int) : Option (List Int) :=
 loopF (fun x => ladingref28_Fixed.b1 wishes1 taken2 k3 x.1 x.2) (0, [])
/-- lading/ladingref28.Best -/
noncomputable def ladingref28_Best.j1 [Fuel] (v6 : Int) (v7 : List Bool) (v8 : List (List (List Int))) (s12 : (List Bool) × (List (List Int)) × Int) (v13 : Bool) : Option ((Int × (List Bool) × List (List (List Int))) ⊕ (((List Bool) × List (List (List Int))) ⊕ ((List Bool) × (List Bool) × (List (List (List Int))) × Int))) :=
 bif v13 then
  some (.inr (.inr ([], [], [], s12.2.2)))
 else
  (bif (eqZ s12.2.2 0) then
   ((app? v7 ([(eqZ s12.2.2 0)] : List Bool)).bind fun l14 =>
   (app? v8 ([[]] : List (List (List Int)))).bind fun l15 =>
   (z64 (v6 + 1)).bind fun v16 =>
   some (.inl (v16, l14, l15)))
  else
   ((app? v7 ([(eqZ s12.2.2 0)] : List Bool)).bind fun l17 =>
   (app? v8 ([s12.2.1] : List (List (List Int)))).bind fun l18 =>
   (z64 (v6 + 1)).bind fun v19 =>
   some (.inl (v19, l17, l18))))
noncomputable def ladingref28_Best.b1 [Fuel] (l1 : List GClause) (p2 : Int) (p3 : List Int) (v6 : Int) (v7 : List Bool) (v8 : List (List (List Int))) : Option ((Int × (List Bool) × List (List (List Int))) ⊕ (((List Bool) × List (List (List Int))) ⊕ ((List Bool) × (List Bool) × (List (List (List Int))) × Int))) :=
 bif (ltZ v6 (p3.length : Int)) then
  ((ladingref28_Fixed p3 v7 v6).bind fun f9 =>
  (idx p3 v6).bind fun v10 =>
  (app? f9 ([v10] : List Int)).bind fun l11 =>
  (ladingref27_Solve l1 p2 l11).bind fun s12 =>
  (bif (!eqZ s12.2.2 0) then
   some (!eqZ s12.2.2 26)
  else
   some false).bind fun x =>
  ladingref28_Best.j1 v6 v7 v8 s12 x)
 else
  some (.inr (.inl (v7, v8)))
noncomputable def ladingref28_Best.j2 [Fuel] (l1 : List GClause) (p2 : Int) (p3 : List Int) (v20 : List Bool) (v21 : List (List (List Int))) : Option ((List Bool) × (List Bool) × (List (List (List Int))) × Int) :=
 (ladingref28_Fixed p3 v20 (p3.length : Int)).bind fun f22 =>
 (ladingref27_Solve l1 p2 f22).bind fun s23 =>
 bif (!eqZ s23.2.2 0) then
  some ([], [], [], s23.2.2)
 else
  some (s23.1, v20, v21, 0)
noncomputable def ladingref28_Best [Fuel] (l1 : List GClause) (p2 : Int) (p3 : List Int) : Option ((List Bool) × (List Bool) × (List (List (List Int))) × Int) :=
 (ladingref28_Right l1 p2 p3).bind fun r4 =>
 bif (!r4) then
  some ([], [], [], 1)
 else
  ((ladingref27_Solve l1 p2 []).bind fun s5 =>
  bif (!eqZ s5.2.2 0) then
   some ([], [], [], s5.2.2)
  else
   ((loopF (fun x => ladingref28_Best.b1 l1 p2 p3 x.1 x.2.1 x.2.2) (0, [], [])).bind fun x => match x with
   | .inl x =>
    ladingref28_Best.j2 l1 p2 p3 x.1 x.2
   | .inr r => some r))
/-- lading/ladingref28.Proofs -/
noncomputable def ladingref28_Proofs.b1 [Fuel] (a1 : List (List (List Int))) (p2 : List (List (List Int))) (v3 : Int) (v6 : Int) (v12 : Int) : Option ((Int) ⊕ ((Int) ⊕ ((Int) ⊕ (Bool)))) :=
 (idx a1 v3).bind fun v13 =>
 (idx v13 v6).bind fun v14 =>
 bif (ltZ v12 (v14.length : Int)) then
  ((idx a1 v3).bind fun v15 =>
  (idx v15 v6).bind fun v16 =>
  (idx v16 v12).bind fun v17 =>
  (idx p2 v3).bind fun v18 =>
  (idx v18 v6).bind fun v19 =>
  (idx v19 v12).bind fun v20 =>
  bif (!eqZ v17 v20) then
   some (.inr (.inr (.inr false)))
  else
   ((z64 (v12 + 1)).bind fun v21 =>
   some (.inl v21)))
 else
  (Option.map Sum.inr ((z64 (v6 + 1)).bind fun v22 =>
  some (.inl v22)))
noncomputable def ladingref28_Proofs.b2 [Fuel] (a1 : List (List (List Int))) (p2 : List (List (List Int))) (v3 : Int) (v6 : Int) : Option ((Int) ⊕ ((Int) ⊕ (Bool))) :=
 (idx a1 v3).bind fun v7 =>
 bif (ltZ v6 (v7.length : Int)) then
  ((idx a1 v3).bind fun v8 =>
  (idx v8 v6).bind fun v9 =>
  (idx p2 v3).bind fun v10 =>
  (idx v10 v6).bind fun v11 =>
  bif (!eqZ (v9.length : Int) (v11.length : Int)) then
   some (.inr (.inr false))
  else
   (loopF (fun x => ladingref28_Proofs.b1 a1 p2 v3 v6 x) 0))
 else
  (Option.map Sum.inr ((z64 (v3 + 1)).bind fun v23 =>
  some (.inl v23)))
noncomputable def ladingref28_Proofs.b3 [Fuel] (a1 : List (List (List Int))) (p2 : List (List (List Int))) (v3 : Int) : Option ((Int) ⊕ (Bool)) :=
 bif (ltZ v3 (a1.length : Int)) then
  ((idx a1 v3).bind fun v4 =>
  (idx p2 v3).bind fun v5 =>
  bif (!eqZ (v4.length : Int) (v5.length : Int)) then
   some (.inr false)
  else
   (loopF (fun x => ladingref28_Proofs.b2 a1 p2 v3 x) 0))
 else
  some (.inr true)
noncomputable def ladingref28_Proofs [Fuel] (a1 : List (List (List Int))) (p2 : List (List (List Int))) : Option Bool :=
 bif (!eqZ (a1.length : Int) (p2.length : Int)) then
  some false
 else
  (loopF (fun x => ladingref28_Proofs.b3 a1 p2 x) 0)
/-- lading/ladingref28.Holds -/
noncomputable def ladingref28_Holds.j1 [Fuel] (model1 : List Bool) (lit2 : Int) (v7 : Bool) : Option Bool :=
 bif v7 then
  ((z64 (-lit2)).bind fun v8 =>
  (z64 (v8 - 1)).bind fun v9 =>
  (idx model1 v9).bind fun v10 =>
  some (!v10))
 else
  some false
noncomputable def ladingref28_Holds.j2 [Fuel] (model1 : List Bool) (lit2 : Int) (v3 : Bool) : Option Bool :=
 bif v3 then
  ((z64 (lit2 - 1)).bind fun v4 =>
  (idx model1 v4).bind fun v5 =>
  some v5)
 else
  ((bif (ltZ lit2 0) then
   ((z64 (-(model1.length : Int))).bind fun v6 =>
   some (leZ v6 lit2))
  else
   some false).bind fun x =>
  ladingref28_Holds.j1 model1 lit2 x)
noncomputable def ladingref28_Holds [Fuel] (model1 : List Bool) (lit2 : Int) : Option Bool :=
 (bif (ltZ 0 lit2) then
  some (leZ lit2 (model1.length : Int))
 else
  some false).bind fun x =>
 ladingref28_Holds.j2 model1 lit2 x
/-- lading/ladingref28.Compare -/
noncomputable def ladingref28_Compare.j1 [Fuel] (i4 : Int) (v10 : Bool) : Option ((Int) ⊕ (Int)) :=
 bif v10 then
  some (.inr (-1))
 else
  ((z64 (i4 + 1)).bind fun v11 =>
  some (.inl v11))
noncomputable def ladingref28_Compare.j2 [Fuel] (i4 : Int) (h6 : Bool) (h8 : Bool) (v9 : Bool) : Option ((Int) ⊕ (Int)) :=
 bif v9 then
  some (.inr 1)
 else
  ((bif h8 then
   some (!h6)
  else
   some false).bind fun x =>
  ladingref28_Compare.j1 i4 x)
noncomputable def ladingref28_Compare.b1 [Fuel] (wishes1 : List Int) (a2 : List Bool) (b3 : List Bool) (i4 : Int) : Option ((Int) ⊕ (Int)) :=
 bif (ltZ i4 (wishes1.length : Int)) then
  ((idx wishes1 i4).bind fun v5 =>
  (ladingref28_Holds a2 v5).bind fun h6 =>
  (idx wishes1 i4).bind fun v7 =>
  (ladingref28_Holds b3 v7).bind fun h8 =>
  (bif h6 then
   some (!h8)
  else
   some false).bind fun x =>
  ladingref28_Compare.j2 i4 h6 h8 x)
 else
  some (.inr 0)
noncomputable def ladingref28_Compare [Fuel] (wishes1 : List Int) (a2 : List Bool) (b3 : List Bool) : Option Int :=
 loopF (fun x => ladingref28_Compare.b1 wishes1 a2 b3 x) 0
/-- lading/ladingref26.True -/
noncomputable def ladingref26_True [Fuel] (model1 : List Bool) (x2 : Int) : Option Bool :=
 (ladingref26_Lit x2).bind fun l3 =>
 bif (!l3) then
  some false
 else
  ((z64 (-x2)).bind fun v4 =>
  (z64 ((max x2 v4) - 1)).bind fun v5 =>
  bif (ltZ v5 (model1.length : Int)) then
   ((idx model1 v5).bind fun v6 =>
   some (v6 == (ltZ 0 x2)))
  else
   some false)
/-- lading/ladingref26.Holds -/
noncomputable def ladingref26_Holds.b1 [Fuel] (l1 : List GClause) (model2 : List Bool) (i3 : Int) (ok4 : Bool) (k5 : Int) : Option ((Bool × Int) ⊕ (Bool)) :=
 (idx l1 i3).bind fun v6 =>
 bif (ltZ k5 (v6.1.length : Int)) then
  (bif ok4 then
   ((z64 (k5 + 1)).bind fun v7 =>
   some (.inl (true, v7)))
  else
   ((idx l1 i3).bind fun v8 =>
   (idx v8.1 k5).bind fun v9 =>
   (ladingref26_True model2 v9).bind fun t10 =>
   (z64 (k5 + 1)).bind fun v11 =>
   some (.inl (t10, v11))))
 else
  some (.inr ok4)
noncomputable def ladingref26_Holds.j1 [Fuel] (i3 : Int) (ok12 : Bool) : Option ((Int) ⊕ (Bool)) :=
 bif (!ok12) then
  some (.inr false)
 else
  ((z64 (i3 + 1)).bind fun v13 =>
  some (.inl v13))
noncomputable def ladingref26_Holds.b2 [Fuel] (l1 : List GClause) (model2 : List Bool) (i3 : Int) : Option ((Int) ⊕ (Bool)) :=
 bif (ltZ i3 (l1.length : Int)) then
  ((loopF (fun x => ladingref26_Holds.b1 l1 model2 i3 x.1 x.2) (false, 0)).bind fun x =>
  ladingref26_Holds.j1 i3 x)
 else
  some (.inr true)
noncomputable def ladingref26_Holds [Fuel] (l1 : List GClause) (model2 : List Bool) : Option Bool :=
 loopF (fun x => ladingref26_Holds.b2 l1 model2 x) 0
/-- lading/ladingref26.Follows -/
noncomputable def ladingref26_Follows.b1 [Fuel] (lits2 : List Int) (i3 : Int) (not4 : List Int) : Option ((Int × List Int) ⊕ (List Int)) :=
 bif (ltZ i3 (lits2.length : Int)) then
  ((idx lits2 i3).bind fun v5 =>
  (ladingref26_Lit v5).bind fun l6 =>
  bif l6 then
   ((idx lits2 i3).bind fun v7 =>
   (z64 (-v7)).bind fun v8 =>
   (app? not4 ([v8] : List Int)).bind fun l9 =>
   (z64 (i3 + 1)).bind fun v10 =>
   some (.inl (v10, l9)))
  else
   ((z64 (i3 + 1)).bind fun v11 =>
   some (.inl (v11, not4))))
 else
  some (.inr not4)
noncomputable def ladingref26_Follows.j1 [Fuel] (l1 : List GClause) (not12 : List Int) : Option Bool :=
 (ladingref26_closure l1 not12).bind fun c13 =>
 some (!c13.2)
noncomputable def ladingref26_Follows [Fuel] (l1 : List GClause) (lits2 : List Int) : Option Bool :=
 (loopF (fun x => ladingref26_Follows.b1 lits2 x.1 x.2) (0, [])).bind fun x =>
 ladingref26_Follows.j1 l1 x
/-- lading/ladingref26.Proof -/
noncomputable def ladingref26_Proof.b1 [Fuel] (learnt2 : List (List Int)) (i4 : Int) (all5 : List GClause) : Option ((Int × List GClause) ⊕ ((Unit) ⊕ (Int))) :=
 bif (ltZ i4 (learnt2.length : Int)) then
  ((idx learnt2 i4).bind fun v6 =>
  (ladingref26_Follows all5 v6).bind fun f7 =>
  bif (!f7) then
   some (.inr (.inr 19))
  else
   ((idx learnt2 i4).bind fun v8 =>
   (app? all5 ([(v8, 0, 0, 0)] : List GClause)).bind fun l9 =>
   (z64 (i4 + 1)).bind fun v10 =>
   some (.inl (v10, l9))))
 else
  some (.inr (.inl ()))
noncomputable def ladingref26_Proof.b2 [Fuel] (v12 : List Int) (i13 : Int) : Option ((Int) ⊕ (Int)) :=
 bif (ltZ i13 (v12.length : Int)) then
  ((idx v12 i13).bind fun v14 =>
  (ladingref26_Lit v14).bind fun l15 =>
  bif l15 then
   some (.inr 19)
  else
   ((z64 (i13 + 1)).bind fun v16 =>
   some (.inl v16)))
 else
  some (.inr 0)
noncomputable def ladingref26_Proof.j1 [Fuel] (learnt2 : List (List Int)) : Option Int :=
 (z64 ((learnt2.length : Int) - 1)).bind fun v11 =>
 (idx learnt2 v11).bind fun v12 =>
 loopF (fun x => ladingref26_Proof.b2 v12 x) 0
noncomputable def ladingref26_Proof [Fuel] (l1 : List GClause) (learnt2 : List (List Int)) : Option Int :=
 bif (ltZ 4000 (learnt2.length : Int)) then
  some 6
 else
  (bif (eqZ (learnt2.length : Int) 0) then
   some 19
  else
   ((app? ([] : List GClause) l1).bind fun l3 =>
   (loopF (fun x => ladingref26_Proof.b1 learnt2 x.1 x.2) (0, l3)).bind fun x => match x with
   | .inl x =>
    ladingref26_Proof.j1 learnt2
   | .inr r => some r))
/-- lading/ladingref28.Check -/
noncomputable def ladingref28_Check.b1 [Fuel] (l20 : List Int) (v21 : Int) (v22 : List GClause) : Option ((Int × List GClause) ⊕ (List GClause)) :=
 bif (ltZ v21 (l20.length : Int)) then
  ((idx l20 v21).bind fun _23 =>
  (idx l20 v21).bind fun v24 =>
  (app? v22 ([(([v24] : List Int), 0, 0, 0)] : List GClause)).bind fun l25 =>
  (z64 (v21 + 1)).bind fun v26 =>
  some (.inl (v26, l25)))
 else
  some (.inr v22)
noncomputable def ladingref28_Check.j1 [Fuel] (p6 : List (List (List Int))) (v10 : Int) (v27 : List GClause) : Option ((Int) ⊕ (Int)) :=
 (idx p6 v10).bind fun v28 =>
 (ladingref26_Proof v27 v28).bind fun p29 =>
 bif (!eqZ p29 0) then
  some (.inr 19)
 else
  ((z64 (v10 + 1)).bind fun v30 =>
  some (.inl v30))
noncomputable def ladingref28_Check.b2 [Fuel] (l1 : List GClause) (p3 : List Int) (p4 : List Bool) (p5 : List Bool) (p6 : List (List (List Int))) (v10 : Int) : Option ((Int) ⊕ (Int)) :=
 bif (ltZ v10 (p3.length : Int)) then
  ((idx p5 v10).bind fun v11 =>
  (idx p3 v10).bind fun v12 =>
  (ladingref28_Holds p4 v12).bind fun h13 =>
  bif (!(v11 == h13)) then
   some (.inr 19)
  else
   ((idx p5 v10).bind fun v14 =>
   bif v14 then
    ((idx p6 v10).bind fun v15 =>
    bif (ltZ 0 (v15.length : Int)) then
     some (.inr 19)
    else
     ((z64 (v10 + 1)).bind fun v16 =>
     some (.inl v16)))
   else
    ((app? ([] : List GClause) l1).bind fun l17 =>
    (ladingref28_Fixed p3 p5 v10).bind fun f18 =>
    (idx p3 v10).bind fun v19 =>
    (app? f18 ([v19] : List Int)).bind fun l20 =>
    (loopF (fun x => ladingref28_Check.b1 l20 x.1 x.2) (0, l17)).bind fun x =>
    ladingref28_Check.j1 p6 v10 x)))
 else
  some (.inr 0)
noncomputable def ladingref28_Check.j2 [Fuel] (l1 : List GClause) (p3 : List Int) (p4 : List Bool) (p5 : List Bool) (p6 : List (List (List Int))) (v9 : Bool) : Option Int :=
 bif v9 then
  some 19
 else
  (loopF (fun x => ladingref28_Check.b2 l1 p3 p4 p5 p6 x) 0)
noncomputable def ladingref28_Check [Fuel] (l1 : List GClause) (p2 : Int) (p3 : List Int) (p4 : List Bool) (p5 : List Bool) (p6 : List (List (List Int))) : Option Int :=
 (ladingref28_Right l1 p2 p3).bind fun r7 =>
 bif (!r7) then
  some 1
 else
  ((bif (!eqZ (p4.length : Int) p2) then
   some true
  else
   (bif (!eqZ (p5.length : Int) (p3.length : Int)) then
    some true
   else
    (bif (!eqZ (p6.length : Int) (p3.length : Int)) then
     some true
    else
     ((ladingref26_Holds l1 p4).bind fun h8 =>
     some (!h8))))).bind fun x =>
  ladingref28_Check.j2 l1 p3 p4 p5 p6 x)
/-- lading/ladinglaw28.PreferTells -/
noncomputable def ladinglaw28_PreferTells.j1 [Fuel] (l1 : List GClause) (p2 : Int) (p3 : List Int) (p4 : List Bool) (p6 : List Bool) (p7 : List (List (List Int))) (s8 : Bool) (b13 : (List Bool) × (List Bool) × (List (List (List Int))) × Int) (v22 : Bool) : Option Bool :=
 bif v22 then
  some false
 else
  ((prefer_Check l1 p2 p3 p4 p6 p7).bind fun c23 =>
  (ladingref28_Check l1 p2 p3 p4 p6 p7).bind fun c24 =>
  (prefer_Check l1 p2 p3 b13.1 b13.2.1 p7).bind fun c25 =>
  (ladingref28_Check l1 p2 p3 b13.1 b13.2.1 p7).bind fun c26 =>
  (prefer_Check l1 p2 p3 p4 b13.2.1 b13.2.2.1).bind fun c27 =>
  (ladingref28_Check l1 p2 p3 p4 b13.2.1 b13.2.2.1).bind fun c28 =>
  bif s8 then
   (bif (eqZ c23 c24) then
    (bif (eqZ c25 c26) then
     (bif (eqZ c27 c28) then
      ((prefer_Check l1 p2 p3 b13.1 b13.2.1 b13.2.2.1).bind fun c29 =>
      (ladingref28_Check l1 p2 p3 b13.1 b13.2.1 b13.2.2.1).bind fun c30 =>
      some (eqZ c29 c30))
     else
      some false)
    else
     some false)
   else
    some false)
  else
   some false)
noncomputable def ladinglaw28_PreferTells.j2 [Fuel] (l1 : List GClause) (p2 : Int) (p3 : List Int) (p4 : List Bool) (p5 : List Bool) (p6 : List Bool) (p7 : List (List (List Int))) (s8 : Bool) (b13 : (List Bool) × (List Bool) × (List (List (List Int))) × Int) (v17 : Bool) : Option Bool :=
 bif v17 then
  some false
 else
  (((prefer_Compare p3 p4 p5).bind fun c18 =>
  (ladingref28_Compare p3 p4 p5).bind fun c19 =>
  bif (!eqZ c18 c19) then
   some true
  else
   ((prefer_Compare p3 p4 b13.1).bind fun c20 =>
   (ladingref28_Compare p3 p4 b13.1).bind fun c21 =>
   some (!eqZ c20 c21))).bind fun x =>
  ladinglaw28_PreferTells.j1 l1 p2 p3 p4 p6 p7 s8 b13 x)
noncomputable def ladinglaw28_PreferTells.j3 [Fuel] (l1 : List GClause) (p2 : Int) (p3 : List Int) (p4 : List Bool) (p5 : List Bool) (p6 : List Bool) (p7 : List (List (List Int))) (s8 : Bool) (v11 : Bool) : Option Bool :=
 bif v11 then
  some s8
 else
  ((prefer_Best l1 p2 p3).bind fun b12 =>
  (ladingref28_Best l1 p2 p3).bind fun b13 =>
  (bif (!eqZ b12.2.2.2 b13.2.2.2) then
   some true
  else
   ((ladingref28_Bools b12.1 b13.1).bind fun b14 =>
   bif (!b14) then
    some true
   else
    ((ladingref28_Bools b12.2.1 b13.2.1).bind fun b15 =>
    bif (!b15) then
     some true
    else
     ((ladingref28_Proofs b12.2.2.1 b13.2.2.1).bind fun p16 =>
     some (!p16))))).bind fun x =>
  ladinglaw28_PreferTells.j2 l1 p2 p3 p4 p5 p6 p7 s8 b13 x)
noncomputable def ladinglaw28_PreferTells [Fuel] (l1 : List GClause) (p2 : Int) (p3 : List Int) (p4 : List Bool) (p5 : List Bool) (p6 : List Bool) (p7 : List (List (List Int))) : Option Bool :=
 (ladinglaw28_small).bind fun s8 =>
 ((ladingref28_Few l1 p2 p3).bind fun f9 =>
 bif (!f9) then
  some true
 else
  ((ladinglaw28_light p7).bind fun l10 =>
  bif (!l10) then
   some true
  else
   (bif (ltZ 20 (p4.length : Int)) then
    some true
   else
    (bif (ltZ 20 (p5.length : Int)) then
     some true
    else
     some (ltZ 20 (p6.length : Int)))))).bind fun x =>
 ladinglaw28_PreferTells.j3 l1 p2 p3 p4 p5 p6 p7 s8 x
/-- lading/ladinglaw28.satisfies -/
noncomputable def ladinglaw28_satisfies.b1 [Fuel] (l1 : List GClause) (m2 : List Bool) (i3 : Int) (some4 : Bool) (k5 : Int) : Option ((Bool × Int) ⊕ (Bool)) :=
 (idx l1 i3).bind fun v6 =>
 bif (ltZ k5 (v6.1.length : Int)) then
  (bif some4 then
   ((z64 (k5 + 1)).bind fun v7 =>
   some (.inl (true, v7)))
  else
   ((idx l1 i3).bind fun v8 =>
   (idx v8.1 k5).bind fun v9 =>
   (ladingref28_Holds m2 v9).bind fun h10 =>
   (z64 (k5 + 1)).bind fun v11 =>
   some (.inl (h10, v11))))
 else
  some (.inr some4)
noncomputable def ladinglaw28_satisfies.j1 [Fuel] (i3 : Int) (some12 : Bool) : Option ((Int) ⊕ (Bool)) :=
 bif (!some12) then
  some (.inr false)
 else
  ((z64 (i3 + 1)).bind fun v13 =>
  some (.inl v13))
noncomputable def ladinglaw28_satisfies.b2 [Fuel] (l1 : List GClause) (m2 : List Bool) (i3 : Int) : Option ((Int) ⊕ (Bool)) :=
 bif (ltZ i3 (l1.length : Int)) then
  ((loopF (fun x => ladinglaw28_satisfies.b1 l1 m2 i3 x.1 x.2) (false, 0)).bind fun x =>
  ladinglaw28_satisfies.j1 i3 x)
 else
  some (.inr true)
noncomputable def ladinglaw28_satisfies [Fuel] (l1 : List GClause) (m2 : List Bool) : Option Bool :=
 loopF (fun x => ladinglaw28_satisfies.b2 l1 m2 x) 0
/-- lading/ladinglaw28.models -/
noncomputable def ladinglaw28_models.j1 [Fuel] (many3 : Int) (i4 : Int) (v5 : Bool) : Option ((Int × Int) ⊕ (Int)) :=
 bif v5 then
  ((z64 ((2 : Int) * many3)).bind fun v6 =>
  (z64 (i4 + 1)).bind fun v7 =>
  some (.inl (v6, v7)))
 else
  some (.inr many3)
noncomputable def ladinglaw28_models.b1 [Fuel] (n2 : Int) (many3 : Int) (i4 : Int) : Option ((Int × Int) ⊕ (Int)) :=
 (bif (ltZ i4 n2) then
  some (ltZ i4 10)
 else
  some false).bind fun x =>
 ladinglaw28_models.j1 many3 i4 x
noncomputable def ladinglaw28_models.b2 [Fuel] (left12 : Int) (i13 : Int) (m14 : List Bool) : Option ((Int × Int × List Bool) ⊕ (List Bool)) :=
 bif (ltZ i13 (m14.length : Int)) then
  ((remZ .i64 left12 2).bind fun v15 =>
  (idx m14 i13).bind fun _16 =>
  (idx m14 i13).bind fun v17 =>
  (quoZ .i64 left12 2).bind fun v18 =>
  (z64 (i13 + 1)).bind fun v19 =>
  some (.inl (v18, v19, (m14.set i13.toNat (eqZ v15 1)))))
 else
  some (.inr m14)
noncomputable def ladinglaw28_models.j2 [Fuel] (l1 : List GClause) (k9 : Int) (out10 : List (List Bool)) (m20 : List Bool) : Option ((Int × List (List Bool)) ⊕ (List (List Bool))) :=
 (ladinglaw28_satisfies l1 m20).bind fun s21 =>
 bif s21 then
  ((app? out10 ([m20] : List (List Bool))).bind fun l22 =>
  (z64 (k9 + 1)).bind fun v23 =>
  some (.inl (v23, l22)))
 else
  ((z64 (k9 + 1)).bind fun v24 =>
  some (.inl (v24, out10)))
noncomputable def ladinglaw28_models.b3 [Fuel] (l1 : List GClause) (n2 : Int) (many8 : Int) (k9 : Int) (out10 : List (List Bool)) : Option ((Int × List (List Bool)) ⊕ (List (List Bool))) :=
 bif (ltZ k9 many8) then
  ((msNeed (max n2 0) (max n2 0)).bind fun _11 =>
  (loopF (fun x => ladinglaw28_models.b2 x.1 x.2.1 x.2.2) (k9, 0, (repT (max n2 0) (false : Bool)))).bind fun x =>
  ladinglaw28_models.j2 l1 k9 out10 x)
 else
  some (.inr out10)
noncomputable def ladinglaw28_models.j3 [Fuel] (l1 : List GClause) (n2 : Int) (many8 : Int) : Option (List (List Bool)) :=
 loopF (fun x => ladinglaw28_models.b3 l1 n2 many8 x.1 x.2) (0, [])
noncomputable def ladinglaw28_models [Fuel] (l1 : List GClause) (n2 : Int) : Option (List (List Bool)) :=
 (loopF (fun x => ladinglaw28_models.b1 n2 x.1 x.2) (1, 0)).bind fun x =>
 ladinglaw28_models.j3 l1 n2 x
/-- lading/ladinglaw28.PreferBest -/
noncomputable def ladinglaw28_PreferBest.j1 [Fuel] (s4 : Bool) (v8 : Int) (v13 : Bool) : Option ((Int) ⊕ ((Unit) ⊕ (Bool))) :=
 bif v13 then
  some (.inr (.inr s4))
 else
  ((z64 (v8 + 1)).bind fun v14 =>
  some (.inl v14))
noncomputable def ladinglaw28_PreferBest.b1 [Fuel] (p2 : Int) (p3 : List Int) (s4 : Bool) (v8 : Int) : Option ((Int) ⊕ ((Unit) ⊕ (Bool))) :=
 bif (ltZ v8 (p3.length : Int)) then
  (((idx p3 v8).bind fun v9 =>
  bif (eqZ v9 0) then
   some true
  else
   ((idx p3 v8).bind fun v10 =>
   (z64 (-p2)).bind fun v11 =>
   bif (ltZ v10 v11) then
    some true
   else
    ((idx p3 v8).bind fun v12 =>
    some (ltZ p2 v12)))).bind fun x =>
  ladinglaw28_PreferBest.j1 s4 v8 x)
 else
  some (.inr (.inl ()))
noncomputable def ladinglaw28_PreferBest.b2 [Fuel] (p3 : List Int) (b15 : (List Bool) × (List Bool) × (List (List (List Int))) × Int) (v20 : Int) : Option ((Int) ⊕ ((Unit) ⊕ (Bool))) :=
 bif (ltZ v20 (p3.length : Int)) then
  ((idx b15.2.1 v20).bind fun v21 =>
  (idx p3 v20).bind fun v22 =>
  (ladingref28_Holds b15.1 v22).bind fun h23 =>
  bif (!(v21 == h23)) then
   some (.inr (.inr false))
  else
   ((z64 (v20 + 1)).bind fun v24 =>
   some (.inl v24)))
 else
  some (.inr (.inl ()))
noncomputable def ladinglaw28_PreferBest.j2 [Fuel] (b15 : (List Bool) × (List Bool) × (List (List (List Int))) × Int) (v25 : Int) (v26 : Int) (h29 : Bool) (v31 : Bool) : Option ((Int) ⊕ ((Int) ⊕ (Bool))) :=
 bif v31 then
  some (.inr (.inr false))
 else
  ((idx b15.2.1 v26).bind fun v32 =>
  bif (!(h29 == v32)) then
   (Option.map Sum.inr ((z64 (v25 + 1)).bind fun v33 =>
   some (.inl v33)))
  else
   ((z64 (v26 + 1)).bind fun v34 =>
   some (.inl v34)))
noncomputable def ladinglaw28_PreferBest.b3 [Fuel] (p3 : List Int) (b15 : (List Bool) × (List Bool) × (List (List (List Int))) × Int) (m16 : List (List Bool)) (v25 : Int) (v26 : Int) : Option ((Int) ⊕ ((Int) ⊕ (Bool))) :=
 bif (ltZ v26 (p3.length : Int)) then
  ((idx m16 v25).bind fun v27 =>
  (idx p3 v26).bind fun v28 =>
  (ladingref28_Holds v27 v28).bind fun h29 =>
  (bif h29 then
   ((idx b15.2.1 v26).bind fun v30 =>
   some (!v30))
  else
   some false).bind fun x =>
  ladinglaw28_PreferBest.j2 b15 v25 v26 h29 x)
 else
  (Option.map Sum.inr ((z64 (v25 + 1)).bind fun v35 =>
  some (.inl v35)))
noncomputable def ladinglaw28_PreferBest.b4 [Fuel] (p3 : List Int) (s4 : Bool) (b15 : (List Bool) × (List Bool) × (List (List (List Int))) × Int) (m16 : List (List Bool)) (v25 : Int) : Option ((Int) ⊕ (Bool)) :=
 bif (ltZ v25 (m16.length : Int)) then
  (loopF (fun x => ladinglaw28_PreferBest.b3 p3 b15 m16 v25 x) 0)
 else
  some (.inr s4)
noncomputable def ladinglaw28_PreferBest.j3 [Fuel] (p3 : List Int) (s4 : Bool) (b15 : (List Bool) × (List Bool) × (List (List (List Int))) × Int) (m16 : List (List Bool)) : Option Bool :=
 loopF (fun x => ladinglaw28_PreferBest.b4 p3 s4 b15 m16 x) 0
noncomputable def ladinglaw28_PreferBest.j4 [Fuel] (p3 : List Int) (s4 : Bool) (b15 : (List Bool) × (List Bool) × (List (List (List Int))) × Int) (m16 : List (List Bool)) (v19 : Bool) : Option Bool :=
 bif v19 then
  some false
 else
  ((loopF (fun x => ladinglaw28_PreferBest.b2 p3 b15 x) 0).bind fun x => match x with
  | .inl x =>
   ladinglaw28_PreferBest.j3 p3 s4 b15 m16
  | .inr r => some r)
noncomputable def ladinglaw28_PreferBest.j5 [Fuel] (l1 : List GClause) (p2 : Int) (p3 : List Int) (s4 : Bool) : Option Bool :=
 (prefer_Best l1 p2 p3).bind fun b15 =>
 (ladinglaw28_models l1 p2).bind fun m16 =>
 bif (eqZ (m16.length : Int) 0) then
  (bif s4 then
   (bif (eqZ b15.2.2.2 26) then
    (bif (eqZ (b15.1.length : Int) 0) then
     (bif (eqZ (b15.2.1.length : Int) 0) then
      some (eqZ (b15.2.2.1.length : Int) 0)
     else
      some false)
    else
     some false)
   else
    some false)
  else
   some false)
 else
  ((bif (!eqZ b15.2.2.2 0) then
   some true
  else
   (bif (!eqZ (b15.1.length : Int) p2) then
    some true
   else
    (bif (!eqZ (b15.2.1.length : Int) (p3.length : Int)) then
     some true
    else
     ((ladinglaw28_satisfies l1 b15.1).bind fun s17 =>
     bif (!s17) then
      some true
     else
      ((prefer_Check l1 p2 p3 b15.1 b15.2.1 b15.2.2.1).bind fun c18 =>
      some (!eqZ c18 0)))))).bind fun x =>
  ladinglaw28_PreferBest.j4 p3 s4 b15 m16 x)
noncomputable def ladinglaw28_PreferBest.j6 [Fuel] (l1 : List GClause) (p2 : Int) (p3 : List Int) (s4 : Bool) (v7 : Bool) : Option Bool :=
 bif v7 then
  some s4
 else
  ((loopF (fun x => ladinglaw28_PreferBest.b1 p2 p3 s4 x) 0).bind fun x => match x with
  | .inl x =>
   ladinglaw28_PreferBest.j5 l1 p2 p3 s4
  | .inr r => some r)
noncomputable def ladinglaw28_PreferBest [Fuel] (l1 : List GClause) (p2 : Int) (p3 : List Int) : Option Bool :=
 (ladinglaw28_small).bind fun s4 =>
 ((ladingref28_Few l1 p2 p3).bind fun f5 =>
 bif (!f5) then
  some true
 else
  (bif (ltZ 8 p2) then
   some true
  else
   ((clause_Right l1 p2).bind fun r6 =>
   some (!r6)))).bind fun x =>
 ladinglaw28_PreferBest.j6 l1 p2 p3 s4 x
/-- lading/ladinglaw28.PreferSound -/
noncomputable def ladinglaw28_PreferSound.b1 [Fuel] (p3 : List Int) (p4 : List Bool) (m13 : List (List Bool)) (v17 : Int) : Option ((Int) ⊕ ((Unit) ⊕ (Bool))) :=
 bif (ltZ v17 (m13.length : Int)) then
  ((idx m13 v17).bind fun v18 =>
  (prefer_Compare p3 v18 p4).bind fun c19 =>
  bif (ltZ 0 c19) then
   some (.inr (.inr false))
  else
   ((z64 (v17 + 1)).bind fun v20 =>
   some (.inl v20)))
 else
  some (.inr (.inl ()))
noncomputable def ladinglaw28_PreferSound.j1 [Fuel] (p3 : List Int) (p4 : List Bool) (m13 : List (List Bool)) (v16 : Bool) : Option ((Unit) ⊕ (Bool)) :=
 bif v16 then
  some (.inr false)
 else
  (loopF (fun x => ladinglaw28_PreferSound.b1 p3 p4 m13 x) 0)
noncomputable def ladinglaw28_PreferSound.j2 [Fuel] (l1 : List GClause) (p2 : Int) (p3 : List Int) (p7 : Int) (s8 : Bool) (b21 : (List Bool) × (List Bool) × (List (List (List Int))) × Int) (v22 : Bool) : Option Bool :=
 bif v22 then
  some s8
 else
  ((app? ([] : List Bool) b21.2.1).bind fun l23 =>
  (remZ .i64 p7 (l23.length : Int)).bind fun v24 =>
  (idx l23 v24).bind fun _25 =>
  (idx l23 v24).bind fun v26 =>
  (idx l23 v24).bind fun _27 =>
  (idx l23 v24).bind fun v28 =>
  bif s8 then
   ((prefer_Check l1 p2 p3 b21.1 (l23.set v24.toNat (!v26)) b21.2.2.1).bind fun c29 =>
   bif (eqZ c29 19) then
    ((z64 ((b21.2.1.length : Int) - 1)).bind fun v30 =>
    (cut b21.2.1 0 v30).bind fun l31 =>
    (prefer_Check l1 p2 p3 b21.1 l31 b21.2.2.1).bind fun c32 =>
    some (eqZ c32 19))
   else
    some false)
  else
   some false)
noncomputable def ladinglaw28_PreferSound.j3 [Fuel] (l1 : List GClause) (p2 : Int) (p3 : List Int) (p7 : Int) (s8 : Bool) : Option Bool :=
 (prefer_Best l1 p2 p3).bind fun b21 =>
 (bif (!eqZ b21.2.2.2 0) then
  some true
 else
  some (eqZ (b21.2.1.length : Int) 0)).bind fun x =>
 ladinglaw28_PreferSound.j2 l1 p2 p3 p7 s8 b21 x
noncomputable def ladinglaw28_PreferSound.j4 [Fuel] (l1 : List GClause) (p2 : Int) (p3 : List Int) (p4 : List Bool) (p5 : List Bool) (p6 : List (List (List Int))) (p7 : Int) (s8 : Bool) (v12 : Bool) : Option Bool :=
 bif v12 then
  some s8
 else
  ((ladinglaw28_models l1 p2).bind fun m13 =>
  ((prefer_Check l1 p2 p3 p4 p5 p6).bind fun c14 =>
  bif (eqZ c14 0) then
   ((bif (!eqZ (p4.length : Int) p2) then
    some true
   else
    ((ladinglaw28_satisfies l1 p4).bind fun s15 =>
    some (!s15))).bind fun x =>
   ladinglaw28_PreferSound.j1 p3 p4 m13 x)
  else
   some (.inl ())).bind fun x => match x with
  | .inl x =>
   ladinglaw28_PreferSound.j3 l1 p2 p3 p7 s8
  | .inr r => some r)
noncomputable def ladinglaw28_PreferSound [Fuel] (l1 : List GClause) (p2 : Int) (p3 : List Int) (p4 : List Bool) (p5 : List Bool) (p6 : List (List (List Int))) (p7 : Int) : Option Bool :=
 (ladinglaw28_small).bind fun s8 =>
 ((ladingref28_Few l1 p2 p3).bind fun f9 =>
 bif (!f9) then
  some true
 else
  (bif (ltZ 8 p2) then
   some true
  else
   ((ladinglaw28_light p6).bind fun l10 =>
   bif (!l10) then
    some true
   else
    ((clause_Right l1 p2).bind fun r11 =>
    bif (!r11) then
     some true
    else
     (bif (ltZ 20 (p4.length : Int)) then
      some true
     else
      some (ltZ 20 (p5.length : Int))))))).bind fun x =>
 ladinglaw28_PreferSound.j4 l1 p2 p3 p4 p5 p6 p7 s8 x
/-- lading/ladinglaw28.PreferOrder -/
noncomputable def ladinglaw28_PreferOrder.b1 [Fuel] (wishes1 : List Int) (p2 : List Bool) (p3 : List Bool) (v15 : Bool) (v16 : Int) : Option ((Bool × Int) ⊕ (Bool)) :=
 bif (ltZ v16 (wishes1.length : Int)) then
  (bif v15 then
   ((idx wishes1 v16).bind fun v17 =>
   (ladingref28_Holds p2 v17).bind fun h18 =>
   (idx wishes1 v16).bind fun v19 =>
   (ladingref28_Holds p3 v19).bind fun h20 =>
   (z64 (v16 + 1)).bind fun v21 =>
   some (.inl ((h18 == h20), v21)))
  else
   ((z64 (v16 + 1)).bind fun v22 =>
   some (.inl (false, v22))))
 else
  some (.inr v15)
noncomputable def ladinglaw28_PreferOrder.j1 [Fuel] (s6 : Bool) (c8 : Int) (v23 : Bool) (c26 : Int) (v32 : Int) : Option Bool :=
 bif s6 then
  (bif (v23 == (eqZ c8 0)) then
   (bif (!eqZ c8 0) then
    (bif (eqZ c26 c8) then
     some true
    else
     (bif (eqZ c8 0) then
      some (eqZ c26 v32)
     else
      some false))
   else
    (bif (eqZ c8 0) then
     some (eqZ c26 v32)
    else
     some false))
  else
   some false)
 else
  some false
noncomputable def ladinglaw28_PreferOrder.j2 [Fuel] (p3 : List Bool) (p5 : Int) (s6 : Bool) (c8 : Int) (v23 : Bool) (c26 : Int) (v29 : Int) : Option Bool :=
 ((ladingref28_Holds p3 p5).bind fun h30 =>
 bif h30 then
  ((z64 (v29 - 1)).bind fun v31 =>
  some v31)
 else
  some v29).bind fun x =>
 ladinglaw28_PreferOrder.j1 s6 c8 v23 c26 x
noncomputable def ladinglaw28_PreferOrder.j3 [Fuel] (wishes1 : List Int) (p2 : List Bool) (p3 : List Bool) (p5 : Int) (s6 : Bool) (c8 : Int) (v23 : Bool) : Option Bool :=
 (app? ([] : List Int) wishes1).bind fun l24 =>
 (app? l24 ([p5] : List Int)).bind fun l25 =>
 (prefer_Compare l25 p2 p3).bind fun c26 =>
 ((ladingref28_Holds p2 p5).bind fun h27 =>
 bif h27 then
  ((z64 ((0 : Int) + 1)).bind fun v28 =>
  some v28)
 else
  some 0).bind fun x =>
 ladinglaw28_PreferOrder.j2 p3 p5 s6 c8 v23 c26 x
noncomputable def ladinglaw28_PreferOrder.j4 [Fuel] (wishes1 : List Int) (p2 : List Bool) (p3 : List Bool) (p5 : Int) (s6 : Bool) (c8 : Int) (v14 : Bool) : Option Bool :=
 bif v14 then
  some false
 else
  ((loopF (fun x => ladinglaw28_PreferOrder.b1 wishes1 p2 p3 x.1 x.2) (true, 0)).bind fun x =>
  ladinglaw28_PreferOrder.j3 wishes1 p2 p3 p5 s6 c8 x)
noncomputable def ladinglaw28_PreferOrder.j5 [Fuel] (wishes1 : List Int) (p2 : List Bool) (p3 : List Bool) (p4 : List Bool) (p5 : Int) (s6 : Bool) (v7 : Bool) : Option Bool :=
 bif v7 then
  some s6
 else
  ((prefer_Compare wishes1 p2 p3).bind fun c8 =>
  (prefer_Compare wishes1 p3 p4).bind fun c9 =>
  (prefer_Compare wishes1 p2 p4).bind fun c10 =>
  ((prefer_Compare wishes1 p3 p2).bind fun c11 =>
  (z64 (-c8)).bind fun v12 =>
  bif (!eqZ c11 v12) then
   some true
  else
   ((prefer_Compare wishes1 p2 p2).bind fun c13 =>
   bif (!eqZ c13 0) then
    some true
   else
    (bif (leZ 0 c8) then
     (bif (leZ 0 c9) then
      (bif (ltZ c10 0) then
       some true
      else
       (bif (ltZ 0 c8) then
        (bif (leZ 0 c9) then
         (bif (leZ c10 0) then
          some true
         else
          (bif (eqZ c8 0) then
           some (!eqZ c10 c9)
          else
           some false))
        else
         (bif (eqZ c8 0) then
          some (!eqZ c10 c9)
         else
          some false))
       else
        (bif (eqZ c8 0) then
         some (!eqZ c10 c9)
        else
         some false)))
     else
      (bif (ltZ 0 c8) then
       (bif (leZ 0 c9) then
        (bif (leZ c10 0) then
         some true
        else
         (bif (eqZ c8 0) then
          some (!eqZ c10 c9)
         else
          some false))
       else
        (bif (eqZ c8 0) then
         some (!eqZ c10 c9)
        else
         some false))
      else
       (bif (eqZ c8 0) then
        some (!eqZ c10 c9)
       else
        some false)))
    else
     (bif (ltZ 0 c8) then
      (bif (leZ 0 c9) then
       (bif (leZ c10 0) then
        some true
       else
        (bif (eqZ c8 0) then
         some (!eqZ c10 c9)
        else
         some false))
      else
       (bif (eqZ c8 0) then
        some (!eqZ c10 c9)
       else
        some false))
     else
      (bif (eqZ c8 0) then
       some (!eqZ c10 c9)
      else
       some false))))).bind fun x =>
  ladinglaw28_PreferOrder.j4 wishes1 p2 p3 p5 s6 c8 x)
noncomputable def ladinglaw28_PreferOrder [Fuel] (wishes1 : List Int) (p2 : List Bool) (p3 : List Bool) (p4 : List Bool) (p5 : Int) : Option Bool :=
 (ladinglaw28_small).bind fun s6 =>
 (bif (ltZ 12 (wishes1.length : Int)) then
  some true
 else
  (bif (ltZ 20 (p2.length : Int)) then
   some true
  else
   (bif (ltZ 20 (p3.length : Int)) then
    some true
   else
    some (ltZ 20 (p4.length : Int))))).bind fun x =>
 ladinglaw28_PreferOrder.j5 wishes1 p2 p3 p4 p5 s6 x
/-- lading/ladinglaw28.PreferMore -/
noncomputable def ladinglaw28_PreferMore.j1 [Fuel] (p4 : GClause) (v30 : Bool) : Option (((List Int) × Int × Int × Int) ⊕ (Bool)) :=
 bif v30 then
  some (.inr false)
 else
  some (.inl (p4.1, p4.2.1, p4.2.2.1, p4.2.2.2))
noncomputable def ladinglaw28_PreferMore.j2 [Fuel] (p4 : GClause) (b9 : (List Bool) × (List Bool) × (List (List (List Int))) × Int) (l13 : List Int) (b22 : (List Bool) × (List Bool) × (List (List (List Int))) × Int) (v24 : Bool) : Option (((List Int) × Int × Int × Int) ⊕ (Bool)) :=
 bif v24 then
  some (.inr false)
 else
  (((idx b22.2.1 (l13.length : Int)).bind fun v25 =>
  (idx b9.2.1 0).bind fun v26 =>
  bif (!(v25 == v26)) then
   some true
  else
   ((z64 ((l13.length : Int) + 1)).bind fun v27 =>
   (idx b22.2.1 v27).bind fun v28 =>
   (idx b9.2.1 0).bind fun v29 =>
   some (v28 == v29))).bind fun x =>
  ladinglaw28_PreferMore.j1 p4 x)
noncomputable def ladinglaw28_PreferMore.j3 [Fuel] (l1 : List GClause) (p2 : Int) (p3 : List Int) (s6 : Bool) (b9 : (List Bool) × (List Bool) × (List (List (List Int))) × Int) (v31 : List Int) (v32 : Int) (v33 : Int) (v34 : Int) : Option Bool :=
 (app? ([] : List GClause) l1).bind fun l35 =>
 (app? l35 ([(v31, v32, v33, v34)] : List GClause)).bind fun l36 =>
 (prefer_Best l36 p2 p3).bind fun b37 =>
 bif s6 then
  (bif (!eqZ b37.2.2.2 0) then
   some true
  else
   ((prefer_Compare p3 b37.1 b9.1).bind fun c38 =>
   some (leZ c38 0)))
 else
  some false
noncomputable def ladinglaw28_PreferMore.j4 [Fuel] (l1 : List GClause) (p2 : Int) (p3 : List Int) (p4 : GClause) (s6 : Bool) (b9 : (List Bool) × (List Bool) × (List (List (List Int))) × Int) (l13 : List Int) (v17 : Bool) : Option Bool :=
 bif v17 then
  some false
 else
  ((bif (ltZ 0 (l13.length : Int)) then
   ((idx l13 0).bind fun v18 =>
   (app? ([] : List Int) l13).bind fun l19 =>
   (z64 (-v18)).bind fun v20 =>
   (app? l19 ([v18, v20] : List Int)).bind fun l21 =>
   (prefer_Best l1 p2 l21).bind fun b22 =>
   (bif (!eqZ b22.2.2.2 0) then
    some true
   else
    ((z64 ((l13.length : Int) + 2)).bind fun v23 =>
    some (!eqZ (b22.2.1.length : Int) v23))).bind fun x =>
   ladinglaw28_PreferMore.j2 p4 b9 l13 b22 x)
  else
   some (.inl (p4.1, p4.2.1, p4.2.2.1, p4.2.2.2))).bind fun x => match x with
  | .inl x =>
   ladinglaw28_PreferMore.j3 l1 p2 p3 s6 b9 x.1 x.2.1 x.2.2.1 x.2.2.2
  | .inr r => some r)
noncomputable def ladinglaw28_PreferMore.j5 [Fuel] (l1 : List GClause) (p2 : Int) (p3 : List Int) (p4 : GClause) (p5 : Int) (s6 : Bool) (b9 : (List Bool) × (List Bool) × (List (List (List Int))) × Int) (v10 : Bool) : Option Bool :=
 bif v10 then
  (bif s6 then
   some (!eqZ b9.2.2.2 0)
  else
   some false)
 else
  ((z64 ((p3.length : Int) + 1)).bind fun v11 =>
  (remZ .i64 p5 v11).bind fun v12 =>
  (cut p3 0 v12).bind fun l13 =>
  (prefer_Best l1 p2 l13).bind fun b14 =>
  (bif (!eqZ b14.2.2.2 0) then
   some true
  else
   ((cut b9.2.1 0 (l13.length : Int)).bind fun l15 =>
   (ladingref28_Bools b14.2.1 l15).bind fun b16 =>
   some (!b16))).bind fun x =>
  ladinglaw28_PreferMore.j4 l1 p2 p3 p4 s6 b9 l13 x)
noncomputable def ladinglaw28_PreferMore.j6 [Fuel] (l1 : List GClause) (p2 : Int) (p3 : List Int) (p4 : GClause) (p5 : Int) (s6 : Bool) (v8 : Bool) : Option Bool :=
 bif v8 then
  some s6
 else
  ((prefer_Best l1 p2 p3).bind fun b9 =>
  (bif (!eqZ b9.2.2.2 0) then
   some true
  else
   some (!eqZ (b9.2.1.length : Int) (p3.length : Int))).bind fun x =>
  ladinglaw28_PreferMore.j5 l1 p2 p3 p4 p5 s6 b9 x)
noncomputable def ladinglaw28_PreferMore [Fuel] (l1 : List GClause) (p2 : Int) (p3 : List Int) (p4 : GClause) (p5 : Int) : Option Bool :=
 (ladinglaw28_small).bind fun s6 =>
 ((ladingref28_Few l1 p2 p3).bind fun f7 =>
 bif (!f7) then
  some true
 else
  (bif (ltZ 6 (p4.1.length : Int)) then
   some true
  else
   some (ltZ 19 (l1.length : Int)))).bind fun x =>
 ladinglaw28_PreferMore.j6 l1 p2 p3 p4 p5 s6 x
end Go.Proofs.Ytimiahoaafjmmaa
