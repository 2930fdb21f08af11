/-
  The functions as plain Lean.
-/
import Derived.Test.YtonjhmnbcgchbaaD2
import Derived.Test.YtonjhmnbcgchbaaProg
import Derived.KernelRfl
namespace Go.Proofs.Ytonjhmnbcgchbaa
open Go.Lad
set_option linter.unusedVariables false
/-- Cost, Removes, Needs, Excludes -/
abbrev GOption : Type := Int × (List Int) × (List Int) × List Int
/-- Kids, Bound -/
abbrev GBranch : Type := Int × Int
/-- cost, removes, needs, excludes -/
abbrev GOptionx : Type := Int × Int × Int × Int
/-- options, all, best, cost, tree -/
abbrev GProblem : Type := (List GOptionx) × Int × Int × Int × List GBranch
/-- l, problems, best, cost, tree -/
abbrev GSearch : Type := (List GOption) × Int × (List Int) × Int × List GBranch
/-- lading/ladinglaw46.example -/
noncomputable def ladinglaw46_example [Fuel] (removes1 : List Int) (excludes2 : List Int) : Option (List GOption) :=
  some ([(5, removes1, [], []), (2, ([0] : List Int), [], []), (2, ([1] : List Int), ([1] : List Int), excludes2)] : List GOption)
/-- lading/recall.ascends -/
noncomputable def recall_ascends.j1 [Fuel] (v5 : Int) (v6 : Int) (v7 : Bool) : Option ((Int × Int) ⊕ (Bool)) :=
  bif v7 then
    some (.inr false)
  else
    ((z64 (v5 + 1)).bind fun v8 =>
    some (.inl (v6, v8)))
noncomputable def recall_ascends.b1 [Fuel] (l1 : List Int) (n2 : Int) (but3 : Int) (last4 : Int) (v5 : Int) : Option ((Int × Int) ⊕ (Bool)) :=
  bif (ltZ v5 (l1.length : Int)) then
    ((idx l1 v5).bind fun v6 =>
    (bif (leZ v6 last4) then
      some true
    else
      (bif (leZ n2 v6) then
        some true
      else
        some (eqZ v6 but3))).bind fun x =>
    recall_ascends.j1 v5 v6 x)
  else
    some (.inr true)
noncomputable def recall_ascends [Fuel] (l1 : List Int) (n2 : Int) (but3 : Int) : Option Bool :=
  loopF (fun x => recall_ascends.b1 l1 n2 but3 x.1 x.2) ((-1), 0)
/-- lading/recall.Right -/
noncomputable def recall_Right.j1 [Fuel] (v4 : Int) (v9 : Bool) : Option ((Int) ⊕ (Bool)) :=
  bif v9 then
    some (.inr false)
  else
    ((z64 (v4 + 1)).bind fun v10 =>
    some (.inl v10))
noncomputable def recall_Right.b1 [Fuel] (l1 : List GOption) (problems2 : Int) (v4 : Int) : Option ((Int) ⊕ (Bool)) :=
  bif (ltZ v4 (l1.length : Int)) then
    ((idx l1 v4).bind fun v5 =>
    (bif (ltZ v5.1 0) then
      some true
    else
      (bif (ltZ 1073741824 v5.1) then
        some true
      else
        ((recall_ascends v5.2.1 problems2 (-1)).bind fun a6 =>
        bif (!a6) then
          some true
        else
          ((recall_ascends v5.2.2.1 (l1.length : Int) v4).bind fun a7 =>
          bif (!a7) then
            some true
          else
            ((recall_ascends v5.2.2.2 (l1.length : Int) v4).bind fun a8 =>
            some (!a8)))))).bind fun x =>
    recall_Right.j1 v4 x)
  else
    some (.inr true)
noncomputable def recall_Right.j2 [Fuel] (l1 : List GOption) (problems2 : Int) (v3 : Bool) : Option Bool :=
  bif v3 then
    some false
  else
    (loopF (fun x => recall_Right.b1 l1 problems2 x) 0)
noncomputable def recall_Right [Fuel] (l1 : List GOption) (problems2 : Int) : Option Bool :=
  (bif (ltZ problems2 0) then
    some true
  else
    (bif (ltZ 60 problems2) then
      some true
    else
      some (ltZ 40 (l1.length : Int)))).bind fun x =>
  recall_Right.j2 l1 problems2 x
/-- lading/recall.bits -/
noncomputable def recall_bits.b1 [Fuel] (l1 : List Int) (out2 : Int) (v3 : Int) : Option ((Int × Int) ⊕ (Int)) :=
  bif (ltZ v3 (l1.length : Int)) then
    ((idx l1 v3).bind fun v4 =>
    (shlZ .u64 1 v4).bind fun v5 =>
    (z64 (v3 + 1)).bind fun v6 =>
    some (.inl ((orI .u64 out2 v5), v6)))
  else
    some (.inr out2)
noncomputable def recall_bits [Fuel] (l1 : List Int) : Option Int :=
  loopF (fun x => recall_bits.b1 l1 x.1 x.2) (0, 0)
/-- lading/recall.load -/
noncomputable def recall_load.b1 [Fuel] (l1 : List GOption) (v4 : Int) (p5 : Int) (p6 : Int) (p7 : Int) (v8 : List GOptionx) : Option ((Int × Int × Int × Int × List GOptionx) ⊕ (Int × Int × Int × (List GOptionx) × List GBranch)) :=
  bif (ltZ v4 (l1.length : Int)) then
    ((idx l1 v4).bind fun v9 =>
    (recall_bits v9.2.1).bind fun b10 =>
    (recall_bits v9.2.2.1).bind fun b11 =>
    (recall_bits v9.2.2.2).bind fun b12 =>
    (app? v8 ([(v9.1, b10, b11, b12)] : List GOptionx)).bind fun l13 =>
    (z64 (v4 + 1)).bind fun v14 =>
    some (.inl (v14, p5, p6, p7, l13)))
  else
    some (.inr (p5, p6, p7, v8, []))
noncomputable def recall_load [Fuel] (l1 : List GOption) (problems2 : Int) : Option (Int × Int × Int × (List GOptionx) × List GBranch) :=
  (shlZ .u64 1 problems2).bind fun v3 =>
  loopF (fun x => recall_load.b1 l1 x.1 x.2.1 x.2.2.1 x.2.2.2.1 x.2.2.2.2) (0, (IntKind.u64.wrap (v3 - 1)), 0, 1099511627776, [])
/-- (*lading/recall.problem).sum -/
noncomputable def recall_problem_sum.b1 [Fuel] (in1 : Int) (p5 : List GOptionx) (v7 : Int) (out8 : Int) (out9 : Int) (out10 : Int) (out11 : Int) : Option ((Int × Int × Int × Int × Int) ⊕ (GOptionx)) :=
  bif (ltZ v7 (p5.length : Int)) then
    ((idx p5 v7).bind fun _12 =>
    (idx p5 v7).bind fun v13 =>
    (shlZ .u64 1 v7).bind fun v14 =>
    bif (!eqZ (andI .u64 in1 v14) 0) then
      ((z64 (out8 + v13.1)).bind fun v15 =>
      (z64 (v7 + 1)).bind fun v16 =>
      some (.inl (v16, v15, (orI .u64 out9 v13.2.1), (orI .u64 out10 v13.2.2.1), (orI .u64 out11 v13.2.2.2))))
    else
      ((z64 (v7 + 1)).bind fun v17 =>
      some (.inl (v17, out8, out9, out10, out11))))
  else
    some (.inr (out8, out9, out10, out11))
noncomputable def recall_problem_sum [Fuel] (in1 : Int) (p2 : Int) (p3 : Int) (p4 : Int) (p5 : List GOptionx) (p6 : List GBranch) : Option GOptionx :=
  loopF (fun x => recall_problem_sum.b1 in1 p5 x.1 x.2.1 x.2.2.1 x.2.2.2.1 x.2.2.2.2) (0, 0, 0, 0, 0)
/-- (*lading/recall.problem).bound -/
noncomputable def recall_problem_bound.b1 [Fuel] (p1 : Int) (p6 : List GOptionx) (v11 : Int) (v12 : Int) (l14 : List GOptionx) (v15 : Int) (v16 : Int) : Option ((Int × Int) ⊕ ((Int × Int) ⊕ (Int))) :=
  bif (ltZ v16 (l14.length : Int)) then
    ((svNeed p1 (p6.length : Int) v16 p6.length).bind fun _17 =>
    (idx p6 (p1 + v16)).bind fun v18 =>
    bif (!eqZ (andI .u64 v18.2.1 (andI .u64 v12 (negU v12))) 0) then
      ((z64 (v16 + 1)).bind fun v19 =>
      some (.inl ((min v15 v18.1), v19)))
    else
      ((z64 (v16 + 1)).bind fun v20 =>
      some (.inl (v15, v20))))
  else
    some (.inr (.inl ((max v11 v15), (andI .u64 v12 (IntKind.u64.wrap (v12 - 1))))))
noncomputable def recall_problem_bound.b2 [Fuel] (p1 : Int) (p6 : List GOptionx) (v11 : Int) (v12 : Int) : Option ((Int × Int) ⊕ (Int)) :=
  bif (!eqZ v12 0) then
    ((cut p6 p1 (p6.length : Int)).bind fun _13 =>
    (cut p6 p1 (p6.length : Int)).bind fun l14 =>
    loopF (fun x => recall_problem_bound.b1 p1 p6 v11 v12 l14 x.1 x.2) (1099511627776, 0))
  else
    some (.inr v11)
noncomputable def recall_problem_bound.j1 [Fuel] (s8 : GOptionx) (v21 : Int) : Option Int :=
  bif (eqZ v21 1099511627776) then
    some 1099511627776
  else
    ((z64 (s8.1 + v21)).bind fun v22 =>
    some v22)
noncomputable def recall_problem_bound.j2 [Fuel] (p1 : Int) (p3 : Int) (p6 : List GOptionx) (s8 : GOptionx) (v10 : Bool) : Option Int :=
  bif v10 then
    some 1099511627776
  else
    ((loopF (fun x => recall_problem_bound.b2 p1 p6 x.1 x.2) (0, (anI .u64 p3 s8.2.1))).bind fun x =>
    recall_problem_bound.j1 s8 x)
noncomputable def recall_problem_bound [Fuel] (p1 : Int) (p2 : Int) (p3 : Int) (p4 : Int) (p5 : Int) (p6 : List GOptionx) (p7 : List GBranch) : Option Int :=
  (recall_problem_sum p2 p3 p4 p5 p6 p7).bind fun s8 =>
  (bif (!eqZ (andI .u64 s8.2.2.2 p2) 0) then
    some true
  else
    ((shlZ .u64 1 p1).bind fun v9 =>
    some (!eqZ (andI .u64 (anI .u64 s8.2.2.1 p2) (IntKind.u64.wrap (v9 - 1))) 0))).bind fun x =>
  recall_problem_bound.j2 p1 p3 p6 s8 x
/-- lading/recall.kids -/
noncomputable def recall_kids [Fuel] (Gr : Int → Int → Int → Int → Int → List GOptionx → List GBranch → Option (Bool × Int × Int × Int × (List GBranch) × List GOptionx)) (k1 : Int) (in2 : Int) (p3 : Int) (p4 : Int) (p5 : Int) (p6 : List GOptionx) (p7 : List GBranch) : Option (Bool × Int × Int × Int × (List GBranch) × List GOptionx) :=
  (z64 (k1 + 1)).bind fun v8 =>
  (Gr v8 in2 p3 p4 p5 p6 p7).bind fun g9 =>
  bif g9.1 then
    ((z64 (k1 + 1)).bind fun v10 =>
    (shlZ .u64 1 k1).bind fun v11 =>
    (Gr v10 (orI .u64 in2 v11) g9.2.1 g9.2.2.1 g9.2.2.2.1 g9.2.2.2.2.2 g9.2.2.2.2.1).bind fun g12 =>
    some (g12.1, g12.2.1, g12.2.2.1, g12.2.2.2.1, g12.2.2.2.2.1, g12.2.2.2.2.2))
  else
    some (false, g9.2.1, g9.2.2.1, g9.2.2.2.1, g9.2.2.2.2.1, g9.2.2.2.2.2)
/-- (*lading/recall.problem).grow -/
noncomputable def recall_problem_grow.body [Fuel] (Gr : Int → Int → Int → Int → Int → List GOptionx → List GBranch → Option (Bool × Int × Int × Int × (List GBranch) × List GOptionx)) (p1 : Int) (p2 : Int) (p3 : Int) (p4 : Int) (p5 : Int) (p6 : List GOptionx) (p7 : List GBranch) : Option (Bool × Int × Int × Int × (List GBranch) × List GOptionx) :=
  bif (eqZ (p7.length : Int) 4000) then
    some (false, p3, p4, p5, p7, p6)
  else
    ((recall_problem_bound p1 p2 p3 p4 p5 p6 p7).bind fun b8 =>
    (app? p7 ([(0, b8)] : List GBranch)).bind fun l9 =>
    bif (leZ p5 b8) then
      some (true, p3, p4, p5, l9, p6)
    else
      (bif (eqZ p1 (p6.length : Int)) then
        some (true, p3, p2, b8, l9, p6)
      else
        ((idx l9 (p7.length : Int)).bind fun _10 =>
        (idx l9 (p7.length : Int)).bind fun v11 =>
        (recall_kids Gr p1 p2 p3 p4 p5 p6 (l9.set (p7.length : Int).toNat (2, v11.2))).bind fun k12 =>
        some (k12.1, k12.2.1, k12.2.2.1, k12.2.2.2.1, k12.2.2.2.2.1, k12.2.2.2.2.2))))
noncomputable def recall_problem_grow.rec [Fuel] : Nat → Int → Int → Int → Int → Int → List GOptionx → List GBranch → Option (Bool × Int × Int × Int × (List GBranch) × List GOptionx)
  | 0 => fun _ _ _ _ _ _ _ => none
  | n + 1 => recall_problem_grow.body (recall_problem_grow.rec n)
noncomputable def recall_problem_grow [Fuel] (p1 : Int) (p2 : Int) (p3 : Int) (p4 : Int) (p5 : Int) (p6 : List GOptionx) (p7 : List GBranch) : Option (Bool × Int × Int × Int × (List GBranch) × List GOptionx) := recall_problem_grow.rec Fuel.n p1 p2 p3 p4 p5 p6 p7
/-- slices.Clip[[]lading/api.Branch,lading/api.Branch] -/
noncomputable def slices_Clip_api_Branch_api_Branch [Fuel] (s1 : List GBranch) : Option (List GBranch) :=
  (clipN s1.length (s1.length : Int) (s1.length : Int)).bind fun _2 =>
  some s1
/-- slices.Clip[[]lading/api.Branch,lading/api.Branch] -/
noncomputable def slices_Clip_api_Branch_api_Branch_v2 [Fuel] (s1 : List GBranch) : Option (List GBranch) :=
  (clipN s1.length (s1.length : Int) (s1.length : Int)).bind fun _2 =>
  some s1
/-- lading/recall.Plan -/
noncomputable def recall_Plan.b1 [Fuel] (l1 : List GOption) (g5 : Bool × Int × Int × Int × (List GBranch) × List GOptionx) (v6 : Int) (set7 : List Int) : Option ((Int × List Int) ⊕ (List Int)) :=
  bif (ltZ v6 (l1.length : Int)) then
    ((shlZ .u64 1 v6).bind fun v8 =>
    bif (!eqZ (andI .u64 g5.2.2.1 v8) 0) then
      ((app? set7 ([v6] : List Int)).bind fun l9 =>
      (z64 (v6 + 1)).bind fun v10 =>
      some (.inl (v10, l9)))
    else
      ((z64 (v6 + 1)).bind fun v11 =>
      some (.inl (v11, set7))))
  else
    some (.inr set7)
noncomputable def recall_Plan.j1 [Fuel] (g5 : Bool × Int × Int × Int × (List GBranch) × List GOptionx) (set12 : List Int) : Option ((List Int) × (List GBranch) × Int) :=
  (slices_Clip_api_Branch_api_Branch_v2 g5.2.2.2.2.1).bind fun v13 =>
  some (set12, v13, 0)
noncomputable def recall_Plan [Fuel] (l1 : List GOption) (problems2 : Int) : Option ((List Int) × (List GBranch) × Int) :=
  (recall_Right l1 problems2).bind fun r3 =>
  bif (!r3) then
    some ([], [], 1)
  else
    ((recall_load l1 problems2).bind fun l4 =>
    (recall_problem_grow 0 0 l4.1 l4.2.1 l4.2.2.1 l4.2.2.2.1 l4.2.2.2.2).bind fun g5 =>
    bif (!g5.1) then
      some ([], [], 6)
    else
      (bif (eqZ g5.2.2.2.1 1099511627776) then
        some ([], [], 4)
      else
        ((loopF (fun x => recall_Plan.b1 l1 g5 x.1 x.2) (0, [])).bind fun x =>
        recall_Plan.j1 g5 x)))
/-- lading/ladingref46.Same -/
noncomputable def ladingref46_Same.b1 [Fuel] (a1 : List Int) (b2 : List Int) (i3 : Int) : Option ((Int) ⊕ (Bool)) :=
  bif (ltZ i3 (a1.length : Int)) then
    ((idx a1 i3).bind fun v4 =>
    (idx b2 i3).bind fun v5 =>
    bif (!eqZ v4 v5) then
      some (.inr false)
    else
      ((z64 (i3 + 1)).bind fun v6 =>
      some (.inl v6)))
  else
    some (.inr true)
noncomputable def ladingref46_Same [Fuel] (a1 : List Int) (b2 : List Int) : Option Bool :=
  bif (!eqZ (a1.length : Int) (b2.length : Int)) then
    some false
  else
    (loopF (fun x => ladingref46_Same.b1 a1 b2 x) 0)
/-- lading/recall.Cost -/
noncomputable def recall_Cost.j1 [Fuel] (l1 : List GOption) (n3 : Int) (v4 : Int) (v5 : Int) (v6 : Bool) : Option ((Int × Int) ⊕ (Int)) :=
  bif v6 then
    ((idx l1 v5).bind fun v7 =>
    (z64 (v4 + 1)).bind fun v8 =>
    some (.inl ((addW n3 v7.1), v8)))
  else
    ((z64 (v4 + 1)).bind fun v9 =>
    some (.inl (n3, v9)))
noncomputable def recall_Cost.b1 [Fuel] (l1 : List GOption) (set2 : List Int) (n3 : Int) (v4 : Int) : Option ((Int × Int) ⊕ (Int)) :=
  bif (ltZ v4 (set2.length : Int)) then
    ((idx set2 v4).bind fun v5 =>
    (bif (leZ 0 v5) then
      some (ltZ v5 (l1.length : Int))
    else
      some false).bind fun x =>
    recall_Cost.j1 l1 n3 v4 v5 x)
  else
    some (.inr n3)
noncomputable def recall_Cost [Fuel] (l1 : List GOption) (set2 : List Int) : Option Int :=
  loopF (fun x => recall_Cost.b1 l1 set2 x.1 x.2) (0, 0)
/-- lading/recall.Good -/
noncomputable def recall_Good.j1 [Fuel] (l1 : List GOption) (problems2 : Int) (set3 : List Int) (v6 : Bool) : Option Bool :=
  bif v6 then
    some false
  else
    ((recall_load l1 problems2).bind fun l7 =>
    (recall_bits set3).bind fun b8 =>
    (recall_problem_sum b8 l7.1 l7.2.1 l7.2.2.1 l7.2.2.2.1 l7.2.2.2.2).bind fun s9 =>
    bif (eqZ (andI .u64 s9.2.2.2 b8) 0) then
      (bif (eqZ (anI .u64 s9.2.2.1 b8) 0) then
        some (eqZ (andI .u64 s9.2.1 l7.1) l7.1)
      else
        some false)
    else
      some false)
noncomputable def recall_Good [Fuel] (l1 : List GOption) (problems2 : Int) (set3 : List Int) : Option Bool :=
  ((recall_Right l1 problems2).bind fun r4 =>
  bif (!r4) then
    some true
  else
    ((recall_ascends set3 (l1.length : Int) (-1)).bind fun a5 =>
    some (!a5))).bind fun x =>
  recall_Good.j1 l1 problems2 set3 x
/-- (*lading/recall.problem).sum -/
noncomputable def recall_problem_sum_v2.b1 [Fuel] (in1 : Int) (p6 : List GOptionx) (v7 : Int) (out8 : Int) (out9 : Int) (out10 : Int) (out11 : Int) : Option ((Int × Int × Int × Int × Int) ⊕ (GOptionx)) :=
  bif (ltZ v7 (p6.length : Int)) then
    ((idx p6 v7).bind fun _12 =>
    (idx p6 v7).bind fun v13 =>
    (shlZ .u64 1 v7).bind fun v14 =>
    bif (!eqZ (andI .u64 in1 v14) 0) then
      ((z64 (out8 + v13.1)).bind fun v15 =>
      (z64 (v7 + 1)).bind fun v16 =>
      some (.inl (v16, v15, (orI .u64 out9 v13.2.1), (orI .u64 out10 v13.2.2.1), (orI .u64 out11 v13.2.2.2))))
    else
      ((z64 (v7 + 1)).bind fun v17 =>
      some (.inl (v17, out8, out9, out10, out11))))
  else
    some (.inr (out8, out9, out10, out11))
noncomputable def recall_problem_sum_v2 [Fuel] (in1 : Int) (p2 : Int) (p3 : Int) (p4 : Int) (p5 : List GBranch) (p6 : List GOptionx) : Option GOptionx :=
  loopF (fun x => recall_problem_sum_v2.b1 in1 p6 x.1 x.2.1 x.2.2.1 x.2.2.2.1 x.2.2.2.2) (0, 0, 0, 0, 0)
/-- (*lading/recall.problem).bound -/
noncomputable def recall_problem_bound_v2.b1 [Fuel] (p1 : Int) (p7 : List GOptionx) (v11 : Int) (v12 : Int) (l14 : List GOptionx) (v15 : Int) (v16 : Int) : Option ((Int × Int) ⊕ ((Int × Int) ⊕ (Int))) :=
  bif (ltZ v16 (l14.length : Int)) then
    ((svNeed p1 (p7.length : Int) v16 p7.length).bind fun _17 =>
    (idx p7 (p1 + v16)).bind fun v18 =>
    bif (!eqZ (andI .u64 v18.2.1 (andI .u64 v12 (negU v12))) 0) then
      ((z64 (v16 + 1)).bind fun v19 =>
      some (.inl ((min v15 v18.1), v19)))
    else
      ((z64 (v16 + 1)).bind fun v20 =>
      some (.inl (v15, v20))))
  else
    some (.inr (.inl ((max v11 v15), (andI .u64 v12 (IntKind.u64.wrap (v12 - 1))))))
noncomputable def recall_problem_bound_v2.b2 [Fuel] (p1 : Int) (p7 : List GOptionx) (v11 : Int) (v12 : Int) : Option ((Int × Int) ⊕ (Int)) :=
  bif (!eqZ v12 0) then
    ((cut p7 p1 (p7.length : Int)).bind fun _13 =>
    (cut p7 p1 (p7.length : Int)).bind fun l14 =>
    loopF (fun x => recall_problem_bound_v2.b1 p1 p7 v11 v12 l14 x.1 x.2) (1099511627776, 0))
  else
    some (.inr v11)
noncomputable def recall_problem_bound_v2.j1 [Fuel] (v8 : GOptionx) (v21 : Int) : Option Int :=
  bif (eqZ v21 1099511627776) then
    some 1099511627776
  else
    ((z64 (v8.1 + v21)).bind fun v22 =>
    some v22)
noncomputable def recall_problem_bound_v2.j2 [Fuel] (p1 : Int) (p3 : Int) (p7 : List GOptionx) (v8 : GOptionx) (v10 : Bool) : Option Int :=
  bif v10 then
    some 1099511627776
  else
    ((loopF (fun x => recall_problem_bound_v2.b2 p1 p7 x.1 x.2) (0, (anI .u64 p3 v8.2.1))).bind fun x =>
    recall_problem_bound_v2.j1 v8 x)
noncomputable def recall_problem_bound_v2 [Fuel] (p1 : Int) (p2 : Int) (p3 : Int) (p4 : Int) (p5 : Int) (p6 : List GBranch) (p7 : List GOptionx) : Option Int :=
  (recall_problem_sum_v2 p2 p3 p4 p5 p6 p7).bind fun v8 =>
  (bif (!eqZ (andI .u64 v8.2.2.2 p2) 0) then
    some true
  else
    ((shlZ .u64 1 p1).bind fun v9 =>
    some (!eqZ (andI .u64 (anI .u64 v8.2.2.1 p2) (IntKind.u64.wrap (v9 - 1))) 0))).bind fun x =>
  recall_problem_bound_v2.j2 p1 p3 p7 v8 x
/-- lading/recall.kids -/
noncomputable def recall_kids_v2 [Fuel] (Gr : Int → Int → Int → Int → Int → List GBranch → List GOptionx → Option (Bool × Int × Int × Int × (List GBranch) × List GOptionx)) (k1 : Int) (in2 : Int) (p3 : Int) (p4 : Int) (p5 : Int) (p6 : List GBranch) (p7 : List GOptionx) : Option (Bool × Int × Int × Int × (List GBranch) × List GOptionx) :=
  (z64 (k1 + 1)).bind fun v8 =>
  (Gr v8 in2 p3 p4 p5 p6 p7).bind fun f9 =>
  bif f9.1 then
    ((z64 (k1 + 1)).bind fun v10 =>
    (shlZ .u64 1 k1).bind fun v11 =>
    (Gr v10 (orI .u64 in2 v11) f9.2.1 f9.2.2.1 f9.2.2.2.1 f9.2.2.2.2.1 f9.2.2.2.2.2).bind fun f12 =>
    some (f12.1, f12.2.1, f12.2.2.1, f12.2.2.2.1, f12.2.2.2.2.1, f12.2.2.2.2.2))
  else
    some (false, f9.2.1, f9.2.2.1, f9.2.2.2.1, f9.2.2.2.2.1, f9.2.2.2.2.2)
/-- (*lading/recall.problem).follow -/
noncomputable def recall_problem_follow.j1 [Fuel] (Gr : Int → Int → Int → Int → Int → List GBranch → List GOptionx → Option (Bool × Int × Int × Int × (List GBranch) × List GOptionx)) (p1 : Int) (p2 : Int) (p3 : Int) (p4 : Int) (p5 : Int) (p7 : List GOptionx) (l9 : List GBranch) (v11 : Bool) : Option (Bool × Int × Int × Int × (List GBranch) × List GOptionx) :=
  bif v11 then
    some (false, p3, p4, p5, l9, p7)
  else
    ((recall_kids_v2 Gr p1 p2 p3 p4 p5 l9 p7).bind fun v12 =>
    some (v12.1, v12.2.1, v12.2.2.1, v12.2.2.2.1, v12.2.2.2.2.1, v12.2.2.2.2.2))
noncomputable def recall_problem_follow.body [Fuel] (Gr : Int → Int → Int → Int → Int → List GBranch → List GOptionx → Option (Bool × Int × Int × Int × (List GBranch) × List GOptionx)) (p1 : Int) (p2 : Int) (p3 : Int) (p4 : Int) (p5 : Int) (p6 : List GBranch) (p7 : List GOptionx) : Option (Bool × Int × Int × Int × (List GBranch) × List GOptionx) :=
  bif (eqZ (p6.length : Int) 0) then
    some (false, p3, p4, p5, p6, p7)
  else
    ((idx p6 0).bind fun v8 =>
    (cut p6 1 (p6.length : Int)).bind fun l9 =>
    (recall_problem_bound_v2 p1 p2 p3 p4 p5 l9 p7).bind fun v10 =>
    bif (!eqZ v8.2 v10) then
      some (false, p3, p4, p5, l9, p7)
    else
      (bif (eqZ v8.1 0) then
        some ((leZ p5 v8.2), p3, p4, p5, l9, p7)
      else
        ((bif (!eqZ v8.1 2) then
          some true
        else
          some (eqZ p1 (p7.length : Int))).bind fun x =>
        recall_problem_follow.j1 Gr p1 p2 p3 p4 p5 p7 l9 x)))
noncomputable def recall_problem_follow.rec [Fuel] : Nat → Int → Int → Int → Int → Int → List GBranch → List GOptionx → Option (Bool × Int × Int × Int × (List GBranch) × List GOptionx)
  | 0 => fun _ _ _ _ _ _ _ => none
  | n + 1 => recall_problem_follow.body (recall_problem_follow.rec n)
noncomputable def recall_problem_follow [Fuel] (p1 : Int) (p2 : Int) (p3 : Int) (p4 : Int) (p5 : Int) (p6 : List GBranch) (p7 : List GOptionx) : Option (Bool × Int × Int × Int × (List GBranch) × List GOptionx) := recall_problem_follow.rec Fuel.n p1 p2 p3 p4 p5 p6 p7
/-- lading/recall.Check -/
noncomputable def recall_Check.j1 [Fuel] (v9 : Bool) : Option Int :=
  bif v9 then
    some 19
  else
    some 0
noncomputable def recall_Check [Fuel] (l1 : List GOption) (problems2 : Int) (set3 : List Int) (tree4 : List GBranch) : Option Int :=
  (recall_Good l1 problems2 set3).bind fun g5 =>
  bif (!g5) then
    some 1
  else
    ((recall_load l1 problems2).bind fun l6 =>
    (recall_Cost l1 set3).bind fun c7 =>
    ((recall_problem_follow 0 0 l6.1 l6.2.1 c7 tree4 l6.2.2.2.1).bind fun f8 =>
    bif (!f8.1) then
      some true
    else
      some (ltZ 0 (f8.2.2.2.2.1.length : Int))).bind fun x =>
    recall_Check.j1 x)
/-- lading/ladinglaw46.small -/
noncomputable def ladinglaw46_small.j1 [Fuel] (p2 : (List Int) × (List GBranch) × Int) (v11 : Bool) : Option Bool :=
  bif v11 then
    ((ladinglaw46_example ([0, 1] : List Int) []).bind fun e12 =>
    (recall_Check e12 2 p2.1 p2.2.1).bind fun c13 =>
    bif (eqZ c13 0) then
      ((ladinglaw46_example ([0, 1] : List Int) []).bind fun e14 =>
      (recall_Good e14 2 ([0, 1] : List Int)).bind fun g15 =>
      some g15)
    else
      some false)
  else
    some false
noncomputable def ladinglaw46_small [Fuel] : Option Bool :=
  (ladinglaw46_example ([0, 1] : List Int) []).bind fun e1 =>
  (recall_Plan e1 2).bind fun p2 =>
  (ladinglaw46_example ([0, 1] : List Int) ([1] : List Int)).bind fun e3 =>
  (recall_Plan e3 2).bind fun p4 =>
  (ladinglaw46_example ([0] : List Int) ([1] : List Int)).bind fun e5 =>
  (recall_Plan e5 2).bind fun p6 =>
  ((ladingref46_Same p2.1 ([1, 2] : List Int)).bind fun s7 =>
  bif s7 then
    ((ladinglaw46_example ([0, 1] : List Int) []).bind fun e8 =>
    (recall_Cost e8 p2.1).bind fun c9 =>
    bif (eqZ c9 4) then
      ((ladingref46_Same p4.1 ([0] : List Int)).bind fun s10 =>
      bif s10 then
        (bif (eqZ p2.2.2 0) then
          (bif (eqZ p4.2.2 0) then
            some (eqZ p6.2.2 4)
          else
            some false)
        else
          some false)
      else
        some false)
    else
      some false)
  else
    some false).bind fun x =>
  ladinglaw46_small.j1 p2 x
/-- lading/ladinglaw46.light -/
noncomputable def ladinglaw46_light.j1 [Fuel] (i3 : Int) (v8 : Bool) : Option ((Int) ⊕ (Bool)) :=
  bif v8 then
    some (.inr false)
  else
    ((z64 (i3 + 1)).bind fun v9 =>
    some (.inl v9))
noncomputable def ladinglaw46_light.j2 [Fuel] (l1 : List GOption) (n2 : Int) (i3 : Int) (v4 : Bool) : Option ((Int) ⊕ (Bool)) :=
  bif v4 then
    (((idx l1 i3).bind fun v5 =>
    bif (ltZ 12 (v5.2.1.length : Int)) then
      some true
    else
      ((idx l1 i3).bind fun v6 =>
      bif (ltZ 12 (v6.2.2.1.length : Int)) then
        some true
      else
        ((idx l1 i3).bind fun v7 =>
        some (ltZ 12 (v7.2.2.2.length : Int))))).bind fun x =>
    ladinglaw46_light.j1 i3 x)
  else
    some (.inr (leZ (l1.length : Int) n2))
noncomputable def ladinglaw46_light.b1 [Fuel] (l1 : List GOption) (n2 : Int) (i3 : Int) : Option ((Int) ⊕ (Bool)) :=
  (bif (ltZ i3 (l1.length : Int)) then
    some (leZ i3 n2)
  else
    some false).bind fun x =>
  ladinglaw46_light.j2 l1 n2 i3 x
noncomputable def ladinglaw46_light [Fuel] (l1 : List GOption) (n2 : Int) : Option Bool :=
  loopF (fun x => ladinglaw46_light.b1 l1 n2 x) 0
/-- lading/ladingref46.rising -/
noncomputable def ladingref46_rising.j1 [Fuel] (i4 : Int) (v11 : Bool) : Option ((Int) ⊕ (Bool)) :=
  bif v11 then
    some (.inr false)
  else
    ((z64 (i4 + 1)).bind fun v12 =>
    some (.inl v12))
noncomputable def ladingref46_rising.b1 [Fuel] (l1 : List Int) (n2 : Int) (but3 : Int) (i4 : Int) : Option ((Int) ⊕ (Bool)) :=
  bif (ltZ i4 (l1.length : Int)) then
    (((idx l1 i4).bind fun v5 =>
    bif (ltZ v5 0) then
      some true
    else
      ((idx l1 i4).bind fun v6 =>
      bif (leZ n2 v6) then
        some true
      else
        ((idx l1 i4).bind fun v7 =>
        bif (eqZ v7 but3) then
          some true
        else
          (bif (ltZ 0 i4) then
            ((idx l1 i4).bind fun v8 =>
            (z64 (i4 - 1)).bind fun v9 =>
            (idx l1 v9).bind fun v10 =>
            some (leZ v8 v10))
          else
            some false)))).bind fun x =>
    ladingref46_rising.j1 i4 x)
  else
    some (.inr true)
noncomputable def ladingref46_rising [Fuel] (l1 : List Int) (n2 : Int) (but3 : Int) : Option Bool :=
  loopF (fun x => ladingref46_rising.b1 l1 n2 but3 x) 0
/-- lading/ladingref46.Right -/
noncomputable def ladingref46_Right.j1 [Fuel] (i4 : Int) (v9 : Bool) : Option ((Int) ⊕ (Bool)) :=
  bif v9 then
    some (.inr false)
  else
    ((z64 (i4 + 1)).bind fun v10 =>
    some (.inl v10))
noncomputable def ladingref46_Right.b1 [Fuel] (l1 : List GOption) (problems2 : Int) (i4 : Int) : Option ((Int) ⊕ (Bool)) :=
  bif (ltZ i4 (l1.length : Int)) then
    ((idx l1 i4).bind fun v5 =>
    (bif (ltZ v5.1 0) then
      some true
    else
      (bif (ltZ 1073741824 v5.1) then
        some true
      else
        ((ladingref46_rising v5.2.1 problems2 (-1)).bind fun r6 =>
        bif (!r6) then
          some true
        else
          ((ladingref46_rising v5.2.2.1 (l1.length : Int) i4).bind fun r7 =>
          bif (!r7) then
            some true
          else
            ((ladingref46_rising v5.2.2.2 (l1.length : Int) i4).bind fun r8 =>
            some (!r8)))))).bind fun x =>
    ladingref46_Right.j1 i4 x)
  else
    some (.inr true)
noncomputable def ladingref46_Right.j2 [Fuel] (l1 : List GOption) (problems2 : Int) (v3 : Bool) : Option Bool :=
  bif v3 then
    some false
  else
    (loopF (fun x => ladingref46_Right.b1 l1 problems2 x) 0)
noncomputable def ladingref46_Right [Fuel] (l1 : List GOption) (problems2 : Int) : Option Bool :=
  (bif (ltZ problems2 0) then
    some true
  else
    (bif (ltZ 60 problems2) then
      some true
    else
      some (ltZ 40 (l1.length : Int)))).bind fun x =>
  ladingref46_Right.j2 l1 problems2 x
/-- lading/ladingref46.has -/
noncomputable def ladingref46_has.b1 [Fuel] (l1 : List Int) (n2 : Int) (i3 : Int) : Option ((Int) ⊕ (Bool)) :=
  bif (ltZ i3 (l1.length : Int)) then
    ((idx l1 i3).bind fun v4 =>
    bif (eqZ v4 n2) then
      some (.inr true)
    else
      ((z64 (i3 + 1)).bind fun v5 =>
      some (.inl v5)))
  else
    some (.inr false)
noncomputable def ladingref46_has [Fuel] (l1 : List Int) (n2 : Int) : Option Bool :=
  loopF (fun x => ladingref46_has.b1 l1 n2 x) 0
/-- lading/ladingref46.removed -/
noncomputable def ladingref46_removed.b1 [Fuel] (l1 : List GOption) (set2 : List Int) (problem3 : Int) (i4 : Int) : Option ((Int) ⊕ (Bool)) :=
  bif (ltZ i4 (set2.length : Int)) then
    ((idx set2 i4).bind fun v5 =>
    (idx l1 v5).bind fun v6 =>
    (ladingref46_has v6.2.1 problem3).bind fun h7 =>
    bif h7 then
      some (.inr true)
    else
      ((z64 (i4 + 1)).bind fun v8 =>
      some (.inl v8)))
  else
    some (.inr false)
noncomputable def ladingref46_removed [Fuel] (l1 : List GOption) (set2 : List Int) (problem3 : Int) : Option Bool :=
  loopF (fun x => ladingref46_removed.b1 l1 set2 problem3 x) 0
/-- lading/ladingref46.Cost -/
noncomputable def ladingref46_Cost.j1 [Fuel] (l1 : List GOption) (set2 : List Int) (n3 : Int) (i4 : Int) (v7 : Bool) : Option ((Int × Int) ⊕ (Int)) :=
  bif v7 then
    ((idx set2 i4).bind fun v8 =>
    (idx l1 v8).bind fun v9 =>
    (z64 (i4 + 1)).bind fun v10 =>
    some (.inl ((addW n3 v9.1), v10)))
  else
    ((z64 (i4 + 1)).bind fun v11 =>
    some (.inl (n3, v11)))
noncomputable def ladingref46_Cost.b1 [Fuel] (l1 : List GOption) (set2 : List Int) (n3 : Int) (i4 : Int) : Option ((Int × Int) ⊕ (Int)) :=
  bif (ltZ i4 (set2.length : Int)) then
    (((idx set2 i4).bind fun v5 =>
    bif (leZ 0 v5) then
      ((idx set2 i4).bind fun v6 =>
      some (ltZ v6 (l1.length : Int)))
    else
      some false).bind fun x =>
    ladingref46_Cost.j1 l1 set2 n3 i4 x)
  else
    some (.inr n3)
noncomputable def ladingref46_Cost [Fuel] (l1 : List GOption) (set2 : List Int) : Option Int :=
  loopF (fun x => ladingref46_Cost.b1 l1 set2 x.1 x.2) (0, 0)
/-- lading/ladingref46.bound -/
noncomputable def ladingref46_bound.b1 [Fuel] (p4 : List Int) (v7 : GOption) (v8 : Int) : Option ((Int) ⊕ ((Unit) ⊕ ((Int) ⊕ ((Unit) ⊕ (Int))))) :=
  bif (ltZ v8 (v7.2.2.2.length : Int)) then
    ((idx v7.2.2.2 v8).bind fun v9 =>
    (ladingref46_has p4 v9).bind fun h10 =>
    bif h10 then
      some (.inr (.inr (.inr (.inr 1099511627776))))
    else
      ((z64 (v8 + 1)).bind fun v11 =>
      some (.inl v11)))
  else
    some (.inr (.inl ()))
noncomputable def ladingref46_bound.j1 [Fuel] (v12 : Int) (v16 : Bool) : Option ((Int) ⊕ ((Int) ⊕ ((Unit) ⊕ (Int)))) :=
  bif v16 then
    some (.inr (.inr (.inr 1099511627776)))
  else
    ((z64 (v12 + 1)).bind fun v17 =>
    some (.inl v17))
noncomputable def ladingref46_bound.b2 [Fuel] (p3 : Int) (p4 : List Int) (v5 : Int) (v7 : GOption) (v12 : Int) : Option ((Int) ⊕ ((Int) ⊕ ((Unit) ⊕ (Int)))) :=
  bif (ltZ v12 (v7.2.2.1.length : Int)) then
    (((idx v7.2.2.1 v12).bind fun v13 =>
    bif (ltZ v13 p3) then
      ((idx v7.2.2.1 v12).bind fun v14 =>
      (ladingref46_has p4 v14).bind fun h15 =>
      some (!h15))
    else
      some false).bind fun x =>
    ladingref46_bound.j1 v12 x)
  else
    (Option.map Sum.inr ((z64 (v5 + 1)).bind fun v18 =>
    some (.inl v18)))
noncomputable def ladingref46_bound.j2 [Fuel] (p3 : Int) (p4 : List Int) (v5 : Int) (v7 : GOption) : Option ((Int) ⊕ ((Unit) ⊕ (Int))) :=
  loopF (fun x => ladingref46_bound.b2 p3 p4 v5 v7 x) 0
noncomputable def ladingref46_bound.b3 [Fuel] (l1 : List GOption) (p3 : Int) (p4 : List Int) (v5 : Int) : Option ((Int) ⊕ ((Unit) ⊕ (Int))) :=
  bif (ltZ v5 (p4.length : Int)) then
    ((idx p4 v5).bind fun v6 =>
    (idx l1 v6).bind fun v7 =>
    (loopF (fun x => ladingref46_bound.b1 p4 v7 x) 0).bind fun x => match x with
    | .inl x =>
      ladingref46_bound.j2 p3 p4 v5 v7
    | .inr r => some r)
  else
    some (.inr (.inl ()))
noncomputable def ladingref46_bound.b4 [Fuel] (l1 : List GOption) (v20 : Int) (v23 : Int) (v24 : Int) : Option ((Int × Int) ⊕ (Int)) :=
  bif (ltZ v24 (l1.length : Int)) then
    ((idx l1 v24).bind fun v25 =>
    (ladingref46_has v25.2.1 v20).bind fun h26 =>
    bif h26 then
      ((idx l1 v24).bind fun v27 =>
      (z64 (v24 + 1)).bind fun v28 =>
      some (.inl ((min v23 v27.1), v28)))
    else
      ((z64 (v24 + 1)).bind fun v29 =>
      some (.inl (v23, v29))))
  else
    some (.inr v23)
noncomputable def ladingref46_bound.j3 [Fuel] (v19 : Int) (v20 : Int) (v30 : Int) : Option ((Int × Int) ⊕ ((Int) ⊕ (Int))) :=
  bif (eqZ v30 1099511627776) then
    some (.inr (.inr 1099511627776))
  else
    ((z64 (v20 + 1)).bind fun v31 =>
    some (.inl ((max v19 v30), v31)))
noncomputable def ladingref46_bound.b5 [Fuel] (l1 : List GOption) (p2 : Int) (p3 : Int) (p4 : List Int) (v19 : Int) (v20 : Int) : Option ((Int × Int) ⊕ ((Int) ⊕ (Int))) :=
  bif (ltZ v20 p2) then
    ((ladingref46_removed l1 p4 v20).bind fun r21 =>
    bif r21 then
      ((z64 (v20 + 1)).bind fun v22 =>
      some (.inl (v19, v22)))
    else
      ((loopF (fun x => ladingref46_bound.b4 l1 v20 x.1 x.2) (1099511627776, p3)).bind fun x =>
      ladingref46_bound.j3 v19 v20 x))
  else
    some (.inr (.inl v19))
noncomputable def ladingref46_bound.j4 [Fuel] (l1 : List GOption) (p4 : List Int) (v32 : Int) : Option Int :=
  (ladingref46_Cost l1 p4).bind fun c33 =>
  (z64 (c33 + v32)).bind fun v34 =>
  some v34
noncomputable def ladingref46_bound.j5 [Fuel] (l1 : List GOption) (p2 : Int) (p3 : Int) (p4 : List Int) : Option Int :=
  (loopF (fun x => ladingref46_bound.b5 l1 p2 p3 p4 x.1 x.2) (0, 0)).bind fun x => match x with
  | .inl x =>
    ladingref46_bound.j4 l1 p4 x
  | .inr r => some r
noncomputable def ladingref46_bound [Fuel] (l1 : List GOption) (p2 : Int) (p3 : Int) (p4 : List Int) : Option Int :=
  (loopF (fun x => ladingref46_bound.b3 l1 p3 p4 x) 0).bind fun x => match x with
  | .inl x =>
    ladingref46_bound.j5 l1 p2 p3 p4
  | .inr r => some r
/-- (*lading/ladingref46.search).visit -/
noncomputable def ladingref46_search_visit_v3.body [Fuel] (Gr : Int → List Int → List GOption → Int → Int → List Int → List GBranch → Option (Bool × (List GOption) × Int × Int × (List Int) × List GBranch)) (p1 : Int) (p2 : List Int) (s3 : List GOption) (s4 : Int) (s5 : Int) (p6 : List Int) (p7 : List GBranch) : Option (Bool × (List GOption) × Int × Int × (List Int) × List GBranch) :=
  bif (leZ 4000 (p7.length : Int)) then
    some (false, s3, s4, s5, p6, p7)
  else
    ((ladingref46_bound s3 s4 p1 p2).bind fun b8 =>
    (app? p7 ([(0, b8)] : List GBranch)).bind fun l9 =>
    bif (leZ s5 b8) then
      some (true, s3, s4, s5, p6, l9)
    else
      (bif (eqZ p1 (s3.length : Int)) then
        ((app? ([] : List Int) p2).bind fun l10 =>
        some (true, s3, s4, b8, l10, l9))
      else
        ((idx l9 (p7.length : Int)).bind fun _11 =>
        (idx l9 (p7.length : Int)).bind fun v12 =>
        (z64 (p1 + 1)).bind fun v13 =>
        (Gr v13 p2 s3 s4 s5 p6 (l9.set (p7.length : Int).toNat (2, v12.2))).bind fun v14 =>
        bif v14.1 then
          ((z64 (p1 + 1)).bind fun v15 =>
          (app? ([] : List Int) p2).bind fun l16 =>
          (app? l16 ([p1] : List Int)).bind fun l17 =>
          (Gr v15 l17 v14.2.1 v14.2.2.1 v14.2.2.2.1 v14.2.2.2.2.1 v14.2.2.2.2.2).bind fun v18 =>
          some (v18.1, v18.2.1, v18.2.2.1, v18.2.2.2.1, v18.2.2.2.2.1, v18.2.2.2.2.2))
        else
          some (v14.1, v14.2.1, v14.2.2.1, v14.2.2.2.1, v14.2.2.2.2.1, v14.2.2.2.2.2))))
noncomputable def ladingref46_search_visit_v3.rec [Fuel] : Nat → Int → List Int → List GOption → Int → Int → List Int → List GBranch → Option (Bool × (List GOption) × Int × Int × (List Int) × List GBranch)
  | 0 => fun _ _ _ _ _ _ _ => none
  | n + 1 => ladingref46_search_visit_v3.body (ladingref46_search_visit_v3.rec n)
noncomputable def ladingref46_search_visit_v3 [Fuel] (p1 : Int) (p2 : List Int) (s3 : List GOption) (s4 : Int) (s5 : Int) (p6 : List Int) (p7 : List GBranch) : Option (Bool × (List GOption) × Int × Int × (List Int) × List GBranch) := ladingref46_search_visit_v3.rec Fuel.n p1 p2 s3 s4 s5 p6 p7
/-- (*lading/ladingref46.search).visit -/
noncomputable def ladingref46_search_visit_v2.body [Fuel] (Gr : Int → List Int → List GOption → Int → Int → List GBranch → Option (Bool × (List GOption) × Int × Int × (List Int) × List GBranch)) (p1 : Int) (p2 : List Int) (s3 : List GOption) (s4 : Int) (s5 : Int) (p6 : List GBranch) : Option (Bool × (List GOption) × Int × Int × (List Int) × List GBranch) :=
  bif (leZ 4000 (p6.length : Int)) then
    some (false, s3, s4, s5, [], p6)
  else
    ((ladingref46_bound s3 s4 p1 p2).bind fun b7 =>
    (app? p6 ([(0, b7)] : List GBranch)).bind fun l8 =>
    bif (leZ s5 b7) then
      some (true, s3, s4, s5, [], l8)
    else
      (bif (eqZ p1 (s3.length : Int)) then
        ((app? ([] : List Int) p2).bind fun l9 =>
        some (true, s3, s4, b7, l9, l8))
      else
        ((idx l8 (p6.length : Int)).bind fun _10 =>
        (idx l8 (p6.length : Int)).bind fun v11 =>
        (z64 (p1 + 1)).bind fun v12 =>
        (Gr v12 p2 s3 s4 s5 (l8.set (p6.length : Int).toNat (2, v11.2))).bind fun v13 =>
        bif v13.1 then
          ((z64 (p1 + 1)).bind fun v14 =>
          (app? ([] : List Int) p2).bind fun l15 =>
          (app? l15 ([p1] : List Int)).bind fun l16 =>
          (ladingref46_search_visit_v3 v14 l16 v13.2.1 v13.2.2.1 v13.2.2.2.1 v13.2.2.2.2.1 v13.2.2.2.2.2).bind fun v17 =>
          some (v17.1, v17.2.1, v17.2.2.1, v17.2.2.2.1, v17.2.2.2.2.1, v17.2.2.2.2.2))
        else
          some (v13.1, v13.2.1, v13.2.2.1, v13.2.2.2.1, v13.2.2.2.2.1, v13.2.2.2.2.2))))
noncomputable def ladingref46_search_visit_v2.rec [Fuel] : Nat → Int → List Int → List GOption → Int → Int → List GBranch → Option (Bool × (List GOption) × Int × Int × (List Int) × List GBranch)
  | 0 => fun _ _ _ _ _ _ => none
  | n + 1 => ladingref46_search_visit_v2.body (ladingref46_search_visit_v2.rec n)
noncomputable def ladingref46_search_visit_v2 [Fuel] (p1 : Int) (p2 : List Int) (s3 : List GOption) (s4 : Int) (s5 : Int) (p6 : List GBranch) : Option (Bool × (List GOption) × Int × Int × (List Int) × List GBranch) := ladingref46_search_visit_v2.rec Fuel.n p1 p2 s3 s4 s5 p6
/-- (*lading/ladingref46.search).visit -/
noncomputable def ladingref46_search_visit [Fuel] (p1 : Int) (p2 : List Int) (s3 : List GOption) (s4 : Int) (s5 : Int) : Option (Bool × (List GOption) × Int × Int × (List Int) × List GBranch) :=
  (ladingref46_bound s3 s4 p1 p2).bind fun b6 =>
  (app? [] ([(0, b6)] : List GBranch)).bind fun l7 =>
  bif (leZ s5 b6) then
    some (true, s3, s4, s5, [], l7)
  else
    (bif (eqZ p1 (s3.length : Int)) then
      ((app? ([] : List Int) p2).bind fun l8 =>
      some (true, s3, s4, b6, l8, l7))
    else
      ((idx l7 0).bind fun _9 =>
      (idx l7 0).bind fun v10 =>
      (z64 (p1 + 1)).bind fun v11 =>
      (ladingref46_search_visit_v2 v11 p2 s3 s4 s5 (l7.set (0 : Int).toNat (2, v10.2))).bind fun v12 =>
      bif v12.1 then
        ((z64 (p1 + 1)).bind fun v13 =>
        (app? ([] : List Int) p2).bind fun l14 =>
        (app? l14 ([p1] : List Int)).bind fun l15 =>
        (ladingref46_search_visit_v3 v13 l15 v12.2.1 v12.2.2.1 v12.2.2.2.1 v12.2.2.2.2.1 v12.2.2.2.2.2).bind fun v16 =>
        some (v16.1, v16.2.1, v16.2.2.1, v16.2.2.2.1, v16.2.2.2.2.1, v16.2.2.2.2.2))
      else
        some (v12.1, v12.2.1, v12.2.2.1, v12.2.2.2.1, v12.2.2.2.2.1, v12.2.2.2.2.2)))
/-- lading/ladingref46.Plan -/
noncomputable def ladingref46_Plan [Fuel] (l1 : List GOption) (problems2 : Int) : Option ((List Int) × (List GBranch) × Int) :=
  (ladingref46_Right l1 problems2).bind fun r3 =>
  bif (!r3) then
    some ([], [], 1)
  else
    ((ladingref46_search_visit 0 [] l1 problems2 1099511627776).bind fun v4 =>
    bif (!v4.1) then
      some ([], [], 6)
    else
      (bif (eqZ v4.2.2.2.1 1099511627776) then
        some ([], [], 4)
      else
        some (v4.2.2.2.2.1, v4.2.2.2.2.2, 0)))
/-- lading/ladingref46.Good -/
noncomputable def ladingref46_Good.b1 [Fuel] (l1 : List GOption) (p2 : Int) (p3 : List Int) (v7 : Int) : Option ((Int) ⊕ ((Unit) ⊕ (Bool))) :=
  bif (ltZ v7 p2) then
    ((ladingref46_removed l1 p3 v7).bind fun r8 =>
    bif (!r8) then
      some (.inr (.inr false))
    else
      ((z64 (v7 + 1)).bind fun v9 =>
      some (.inl v9)))
  else
    some (.inr (.inl ()))
noncomputable def ladingref46_Good.b2 [Fuel] (p3 : List Int) (v12 : GOption) (v13 : Int) : Option ((Int) ⊕ ((Unit) ⊕ ((Int) ⊕ (Bool)))) :=
  bif (ltZ v13 (v12.2.2.1.length : Int)) then
    ((idx v12.2.2.1 v13).bind fun v14 =>
    (ladingref46_has p3 v14).bind fun h15 =>
    bif (!h15) then
      some (.inr (.inr (.inr false)))
    else
      ((z64 (v13 + 1)).bind fun v16 =>
      some (.inl v16)))
  else
    some (.inr (.inl ()))
noncomputable def ladingref46_Good.b3 [Fuel] (p3 : List Int) (v10 : Int) (v12 : GOption) (v17 : Int) : Option ((Int) ⊕ ((Int) ⊕ (Bool))) :=
  bif (ltZ v17 (v12.2.2.2.length : Int)) then
    ((idx v12.2.2.2 v17).bind fun v18 =>
    (ladingref46_has p3 v18).bind fun h19 =>
    bif h19 then
      some (.inr (.inr false))
    else
      ((z64 (v17 + 1)).bind fun v20 =>
      some (.inl v20)))
  else
    (Option.map Sum.inr ((z64 (v10 + 1)).bind fun v21 =>
    some (.inl v21)))
noncomputable def ladingref46_Good.j1 [Fuel] (p3 : List Int) (v10 : Int) (v12 : GOption) : Option ((Int) ⊕ (Bool)) :=
  loopF (fun x => ladingref46_Good.b3 p3 v10 v12 x) 0
noncomputable def ladingref46_Good.b4 [Fuel] (l1 : List GOption) (p3 : List Int) (v10 : Int) : Option ((Int) ⊕ (Bool)) :=
  bif (ltZ v10 (p3.length : Int)) then
    ((idx p3 v10).bind fun v11 =>
    (idx l1 v11).bind fun v12 =>
    (loopF (fun x => ladingref46_Good.b2 p3 v12 x) 0).bind fun x => match x with
    | .inl x =>
      ladingref46_Good.j1 p3 v10 v12
    | .inr r => some r)
  else
    some (.inr true)
noncomputable def ladingref46_Good.j2 [Fuel] (l1 : List GOption) (p3 : List Int) : Option Bool :=
  loopF (fun x => ladingref46_Good.b4 l1 p3 x) 0
noncomputable def ladingref46_Good.j3 [Fuel] (l1 : List GOption) (p2 : Int) (p3 : List Int) (v6 : Bool) : Option Bool :=
  bif v6 then
    some false
  else
    ((loopF (fun x => ladingref46_Good.b1 l1 p2 p3 x) 0).bind fun x => match x with
    | .inl x =>
      ladingref46_Good.j2 l1 p3
    | .inr r => some r)
noncomputable def ladingref46_Good [Fuel] (l1 : List GOption) (p2 : Int) (p3 : List Int) : Option Bool :=
  ((ladingref46_Right l1 p2).bind fun r4 =>
  bif (!r4) then
    some true
  else
    ((ladingref46_rising p3 (l1.length : Int) (-1)).bind fun r5 =>
    some (!r5))).bind fun x =>
  ladingref46_Good.j3 l1 p2 p3 x
/-- lading/ladingref46.SameTree -/
noncomputable def ladingref46_SameTree.b1 [Fuel] (a1 : List GBranch) (b2 : List GBranch) (i3 : Int) : Option ((Int) ⊕ (Bool)) :=
  bif (ltZ i3 (a1.length : Int)) then
    ((idx a1 i3).bind fun v4 =>
    (idx b2 i3).bind fun v5 =>
    bif (!((eqZ v4.1 v5.1 && eqZ v4.2 v5.2))) then
      some (.inr false)
    else
      ((z64 (i3 + 1)).bind fun v6 =>
      some (.inl v6)))
  else
    some (.inr true)
noncomputable def ladingref46_SameTree [Fuel] (a1 : List GBranch) (b2 : List GBranch) : Option Bool :=
  bif (!eqZ (a1.length : Int) (b2.length : Int)) then
    some false
  else
    (loopF (fun x => ladingref46_SameTree.b1 a1 b2 x) 0)
/-- lading/ladingref46.walk -/
noncomputable def ladingref46_walk.j1 [Fuel] (Gr : List GOption → Int → Int → List GBranch → Int → Int → List Int → Option Int) (l1 : List GOption) (p2 : Int) (p3 : Int) (p4 : List GBranch) (p5 : Int) (p6 : Int) (p7 : List Int) (v13 : Bool) : Option Int :=
  bif v13 then
    some (-1)
  else
    ((z64 (p5 + 1)).bind fun v14 =>
    (z64 (p6 + 1)).bind fun v15 =>
    (Gr l1 p2 p3 p4 v14 v15 p7).bind fun w16 =>
    (z64 (p6 + 1)).bind fun v17 =>
    (app? ([] : List Int) p7).bind fun l18 =>
    (app? l18 ([p6] : List Int)).bind fun l19 =>
    (Gr l1 p2 p3 p4 w16 v17 l19).bind fun w20 =>
    some w20)
noncomputable def ladingref46_walk.j2 [Fuel] (Gr : List GOption → Int → Int → List GBranch → Int → Int → List Int → Option Int) (l1 : List GOption) (p2 : Int) (p3 : Int) (p4 : List GBranch) (p5 : Int) (p6 : Int) (p7 : List Int) (v9 : GBranch) (v11 : Bool) : Option Int :=
  bif v11 then
    some (-1)
  else
    (bif (eqZ v9.1 0) then
      ((z64 (p5 + 1)).bind fun v12 =>
      some v12)
    else
      ((bif (!eqZ v9.1 2) then
        some true
      else
        some (eqZ p6 (l1.length : Int))).bind fun x =>
      ladingref46_walk.j1 Gr l1 p2 p3 p4 p5 p6 p7 x))
noncomputable def ladingref46_walk.j3 [Fuel] (Gr : List GOption → Int → Int → List GBranch → Int → Int → List Int → Option Int) (l1 : List GOption) (p2 : Int) (p3 : Int) (p4 : List GBranch) (p5 : Int) (p6 : Int) (p7 : List Int) (v8 : Bool) : Option Int :=
  bif v8 then
    some (-1)
  else
    ((idx p4 p5).bind fun v9 =>
    ((ladingref46_bound l1 p2 p6 p7).bind fun b10 =>
    bif (!eqZ v9.2 b10) then
      some true
    else
      (bif (eqZ v9.1 0) then
        some (ltZ v9.2 p3)
      else
        some false)).bind fun x =>
    ladingref46_walk.j2 Gr l1 p2 p3 p4 p5 p6 p7 v9 x)
noncomputable def ladingref46_walk.body [Fuel] (Gr : List GOption → Int → Int → List GBranch → Int → Int → List Int → Option Int) (l1 : List GOption) (p2 : Int) (p3 : Int) (p4 : List GBranch) (p5 : Int) (p6 : Int) (p7 : List Int) : Option Int :=
  (bif (ltZ p5 0) then
    some true
  else
    some (leZ (p4.length : Int) p5)).bind fun x =>
  ladingref46_walk.j3 Gr l1 p2 p3 p4 p5 p6 p7 x
noncomputable def ladingref46_walk.rec [Fuel] : Nat → List GOption → Int → Int → List GBranch → Int → Int → List Int → Option Int
  | 0 => fun _ _ _ _ _ _ _ => none
  | n + 1 => ladingref46_walk.body (ladingref46_walk.rec n)
noncomputable def ladingref46_walk [Fuel] (l1 : List GOption) (p2 : Int) (p3 : Int) (p4 : List GBranch) (p5 : Int) (p6 : Int) (p7 : List Int) : Option Int := ladingref46_walk.rec Fuel.n l1 p2 p3 p4 p5 p6 p7
/-- lading/ladingref46.Check -/
noncomputable def ladingref46_Check.j1 [Fuel] (v8 : Bool) : Option Int :=
  bif v8 then
    some 19
  else
    some 0
noncomputable def ladingref46_Check [Fuel] (l1 : List GOption) (problems2 : Int) (set3 : List Int) (tree4 : List GBranch) : Option Int :=
  (ladingref46_Good l1 problems2 set3).bind fun g5 =>
  bif (!g5) then
    some 1
  else
    ((ladingref46_Cost l1 set3).bind fun c6 =>
    (ladingref46_walk l1 problems2 c6 tree4 0 0 []).bind fun w7 =>
    (bif (ltZ w7 0) then
      some true
    else
      some (!eqZ w7 (tree4.length : Int))).bind fun x =>
    ladingref46_Check.j1 x)
/-- lading/ladinglaw46.RecallTells -/
noncomputable def ladinglaw46_RecallTells.j1 [Fuel] (l1 : List GOption) (p2 : Int) (p3 : List Int) (p4 : List GBranch) (s5 : Bool) (p8 : (List Int) × (List GBranch) × Int) (p9 : (List Int) × (List GBranch) × Int) (v16 : Bool) : Option Bool :=
  bif s5 then
    (bif v16 then
      (bif (eqZ p8.2.2 p9.2.2) then
        ((ladingref46_Same p8.1 p9.1).bind fun s17 =>
        bif s17 then
          ((ladingref46_SameTree p8.2.1 p9.2.1).bind fun s18 =>
          bif s18 then
            ((recall_Check l1 p2 p3 p4).bind fun c19 =>
            (ladingref46_Check l1 p2 p3 p4).bind fun c20 =>
            some (eqZ c19 c20))
          else
            some false)
        else
          some false)
      else
        some false)
    else
      some false)
  else
    some false
noncomputable def ladinglaw46_RecallTells.j2 [Fuel] (l1 : List GOption) (p2 : Int) (p3 : List Int) (p4 : List GBranch) (s5 : Bool) (v7 : Bool) : Option Bool :=
  bif v7 then
    some s5
  else
    ((recall_Plan l1 p2).bind fun p8 =>
    (ladingref46_Plan l1 p2).bind fun p9 =>
    ((recall_Right l1 p2).bind fun r10 =>
    (ladingref46_Right l1 p2).bind fun r11 =>
    bif (r10 == r11) then
      ((recall_Good l1 p2 p3).bind fun g12 =>
      (ladingref46_Good l1 p2 p3).bind fun g13 =>
      bif (g12 == g13) then
        ((recall_Cost l1 p3).bind fun c14 =>
        (ladingref46_Cost l1 p3).bind fun c15 =>
        some (eqZ c14 c15))
      else
        some false)
    else
      some false).bind fun x =>
    ladinglaw46_RecallTells.j1 l1 p2 p3 p4 s5 p8 p9 x)
noncomputable def ladinglaw46_RecallTells [Fuel] (l1 : List GOption) (p2 : Int) (p3 : List Int) (p4 : List GBranch) : Option Bool :=
  (ladinglaw46_small).bind fun s5 =>
  ((ladinglaw46_light l1 14).bind fun l6 =>
  bif (!l6) then
    some true
  else
    (bif (ltZ 20 (p3.length : Int)) then
      some true
    else
      (bif (ltZ 4000 (p4.length : Int)) then
        some true
      else
        some (ltZ 70 p2)))).bind fun x =>
  ladinglaw46_RecallTells.j2 l1 p2 p3 p4 s5 x
/-- lading/ladinglaw46.subset -/
noncomputable def ladinglaw46_subset.b1 [Fuel] (n1 : Int) (bits2 : Int) (i3 : Int) (out4 : List Int) : Option ((Int × List Int) ⊕ (List Int)) :=
  bif (ltZ i3 n1) then
    ((z64 (n1 - 1)).bind fun v5 =>
    (z64 (v5 - i3)).bind fun v6 =>
    (shrZ .i64 bits2 (IntKind.u64.wrap v6)).bind fun v7 =>
    bif (eqZ (andI .i64 v7 1) 1) then
      ((app? out4 ([i3] : List Int)).bind fun l8 =>
      (z64 (i3 + 1)).bind fun v9 =>
      some (.inl (v9, l8)))
    else
      ((z64 (i3 + 1)).bind fun v10 =>
      some (.inl (v10, out4))))
  else
    some (.inr out4)
noncomputable def ladinglaw46_subset [Fuel] (n1 : Int) (bits2 : Int) : Option (List Int) :=
  loopF (fun x => ladinglaw46_subset.b1 n1 bits2 x.1 x.2) (0, [])
/-- lading/ladinglaw46.RecallLeast -/
noncomputable def ladinglaw46_RecallLeast.b1 [Fuel] (l1 : List GOption) (s12 : List Int) (v15 : Int) (v16 : Int) : Option ((Int × Int) ⊕ (Int)) :=
  bif (ltZ v16 (s12.length : Int)) then
    ((idx s12 v16).bind fun v17 =>
    (idx l1 v17).bind fun v18 =>
    (z64 (v15 + v18.1)).bind fun v19 =>
    (z64 (v16 + 1)).bind fun v20 =>
    some (.inl (v19, v20)))
  else
    some (.inr v15)
noncomputable def ladinglaw46_RecallLeast.j1 [Fuel] (v8 : List Int) (v9 : Int) (v10 : Int) (s12 : List Int) (v21 : Int) (v23 : Bool) : Option (((List Int) × Int × Int) ⊕ (((List Int) × Int) ⊕ (Bool))) :=
  bif v23 then
    ((z64 (v10 + 1)).bind fun v24 =>
    some (.inl (s12, v21, v24)))
  else
    ((z64 (v10 + 1)).bind fun v25 =>
    some (.inl (v8, v9, v25)))
noncomputable def ladinglaw46_RecallLeast.j2 [Fuel] (l1 : List GOption) (v8 : List Int) (v9 : Int) (v10 : Int) (s12 : List Int) (v21 : Int) : Option (((List Int) × Int × Int) ⊕ (((List Int) × Int) ⊕ (Bool))) :=
  (recall_Cost l1 s12).bind fun c22 =>
  bif (!eqZ c22 v21) then
    some (.inr (.inr false))
  else
    ((bif (ltZ v9 0) then
      some true
    else
      some (ltZ v21 v9)).bind fun x =>
    ladinglaw46_RecallLeast.j1 v8 v9 v10 s12 v21 x)
noncomputable def ladinglaw46_RecallLeast.b2 [Fuel] (l1 : List GOption) (p2 : Int) (v8 : List Int) (v9 : Int) (v10 : Int) : Option (((List Int) × Int × Int) ⊕ (((List Int) × Int) ⊕ (Bool))) :=
  (shlZ .i64 1 (IntKind.u64.wrap (l1.length : Int))).bind fun v11 =>
  bif (ltZ v10 v11) then
    ((ladinglaw46_subset (l1.length : Int) v10).bind fun s12 =>
    (recall_Good l1 p2 s12).bind fun g13 =>
    bif (!g13) then
      ((z64 (v10 + 1)).bind fun v14 =>
      some (.inl (v8, v9, v14)))
    else
      ((loopF (fun x => ladinglaw46_RecallLeast.b1 l1 s12 x.1 x.2) (0, 0)).bind fun x =>
      ladinglaw46_RecallLeast.j2 l1 v8 v9 v10 s12 x))
  else
    some (.inr (.inl (v8, v9)))
noncomputable def ladinglaw46_RecallLeast.j3 [Fuel] (s3 : Bool) (p7 : (List Int) × (List GBranch) × Int) (v26 : List Int) (v27 : Int) : Option Bool :=
  bif (ltZ v27 0) then
    (bif s3 then
      (bif (eqZ p7.2.2 4) then
        some (eqZ (p7.1.length : Int) 0)
      else
        some false)
    else
      some false)
  else
    (bif s3 then
      (bif (eqZ p7.2.2 0) then
        ((ladingref46_Same p7.1 v26).bind fun s28 =>
        some s28)
      else
        some false)
    else
      some false)
noncomputable def ladinglaw46_RecallLeast.j4 [Fuel] (l1 : List GOption) (p2 : Int) (s3 : Bool) (v6 : Bool) : Option Bool :=
  bif v6 then
    some s3
  else
    ((recall_Plan l1 p2).bind fun p7 =>
    (loopF (fun x => ladinglaw46_RecallLeast.b2 l1 p2 x.1 x.2.1 x.2.2) ([], (-1), 0)).bind fun x => match x with
    | .inl x =>
      ladinglaw46_RecallLeast.j3 s3 p7 x.1 x.2
    | .inr r => some r)
noncomputable def ladinglaw46_RecallLeast [Fuel] (l1 : List GOption) (p2 : Int) : Option Bool :=
  (ladinglaw46_small).bind fun s3 =>
  ((ladinglaw46_light l1 9).bind fun l4 =>
  bif (!l4) then
    some true
  else
    (bif (ltZ p2 0) then
      some true
    else
      (bif (ltZ 12 p2) then
        some true
      else
        ((recall_Right l1 p2).bind fun r5 =>
        some (!r5))))).bind fun x =>
  ladinglaw46_RecallLeast.j4 l1 p2 s3 x
/-- lading/ladinglaw46.RecallChecks -/
noncomputable def ladinglaw46_RecallChecks.j1 [Fuel] (l1 : List GOption) (p2 : Int) (p3 : List Int) (p4 : List GBranch) (s5 : Bool) (v16 : Bool) : Option Bool :=
  bif v16 then
    some false
  else
    ((app? ([] : List GBranch) p4).bind fun l17 =>
    (idx p4 0).bind fun v18 =>
    (app? l17 ([v18] : List GBranch)).bind fun l19 =>
    bif s5 then
      ((z64 ((p4.length : Int) - 1)).bind fun v20 =>
      (cut p4 0 v20).bind fun l21 =>
      (recall_Check l1 p2 p3 l21).bind fun c22 =>
      bif (eqZ c22 19) then
        ((recall_Check l1 p2 p3 l19).bind fun c23 =>
        some (eqZ c23 19))
      else
        some false)
    else
      some false)
noncomputable def ladinglaw46_RecallChecks.j2 [Fuel] (l1 : List GOption) (p2 : Int) (p3 : List Int) (p4 : List GBranch) (s5 : Bool) (p9 : (List Int) × (List GBranch) × Int) (v11 : Bool) : Option Bool :=
  bif v11 then
    some false
  else
    ((recall_Check l1 p2 p3 p4).bind fun c12 =>
    bif (!eqZ c12 0) then
      some s5
    else
      ((bif (!eqZ p9.2.2 0) then
        some true
      else
        (bif (eqZ (p4.length : Int) 0) then
          some true
        else
          ((recall_Good l1 p2 p3).bind fun g13 =>
          bif (!g13) then
            some true
          else
            ((recall_Cost l1 p3).bind fun c14 =>
            (recall_Cost l1 p9.1).bind fun c15 =>
            some (!eqZ c14 c15))))).bind fun x =>
      ladinglaw46_RecallChecks.j1 l1 p2 p3 p4 s5 x))
noncomputable def ladinglaw46_RecallChecks.j3 [Fuel] (l1 : List GOption) (p2 : Int) (p3 : List Int) (p4 : List GBranch) (s5 : Bool) (v8 : Bool) : Option Bool :=
  bif v8 then
    some s5
  else
    ((recall_Plan l1 p2).bind fun p9 =>
    (bif (eqZ p9.2.2 0) then
      ((recall_Check l1 p2 p9.1 p9.2.1).bind fun c10 =>
      bif (!eqZ c10 0) then
        some true
      else
        (bif (!eqZ p9.2.2 0) then
          (bif (ltZ 0 (p9.1.length : Int)) then
            some true
          else
            some (ltZ 0 (p9.2.1.length : Int)))
        else
          some false))
    else
      (bif (!eqZ p9.2.2 0) then
        (bif (ltZ 0 (p9.1.length : Int)) then
          some true
        else
          some (ltZ 0 (p9.2.1.length : Int)))
      else
        some false)).bind fun x =>
    ladinglaw46_RecallChecks.j2 l1 p2 p3 p4 s5 p9 x)
noncomputable def ladinglaw46_RecallChecks [Fuel] (l1 : List GOption) (p2 : Int) (p3 : List Int) (p4 : List GBranch) : Option Bool :=
  (ladinglaw46_small).bind fun s5 =>
  ((ladinglaw46_light l1 9).bind fun l6 =>
  bif (!l6) then
    some true
  else
    (bif (ltZ p2 0) then
      some true
    else
      (bif (ltZ 12 p2) then
        some true
      else
        ((recall_Right l1 p2).bind fun r7 =>
        bif (!r7) then
          some true
        else
          (bif (ltZ 12 (p3.length : Int)) then
            some true
          else
            some (ltZ 600 (p4.length : Int))))))).bind fun x =>
  ladinglaw46_RecallChecks.j3 l1 p2 p3 p4 s5 x
/-- lading/recall.Plan -/
noncomputable def recall_Plan_v2.b1 [Fuel] (l1 : List GOption) (g5 : Bool × Int × Int × Int × (List GBranch) × List GOptionx) (v6 : Int) (set7 : List Int) : Option ((Int × List Int) ⊕ (List Int)) :=
  bif (ltZ v6 (l1.length : Int)) then
    ((shlZ .u64 1 v6).bind fun v8 =>
    bif (!eqZ (andI .u64 g5.2.2.1 v8) 0) then
      ((app? set7 ([v6] : List Int)).bind fun l9 =>
      (z64 (v6 + 1)).bind fun v10 =>
      some (.inl (v10, l9)))
    else
      ((z64 (v6 + 1)).bind fun v11 =>
      some (.inl (v11, set7))))
  else
    some (.inr set7)
noncomputable def recall_Plan_v2.j1 [Fuel] (g5 : Bool × Int × Int × Int × (List GBranch) × List GOptionx) (set12 : List Int) : Option ((List GBranch) × Int × List Int) :=
  (slices_Clip_api_Branch_api_Branch_v2 g5.2.2.2.2.1).bind fun v13 =>
  some (v13, 0, set12)
noncomputable def recall_Plan_v2 [Fuel] (l1 : List GOption) (problems2 : Int) : Option ((List GBranch) × Int × List Int) :=
  (recall_Right l1 problems2).bind fun r3 =>
  bif (!r3) then
    some ([], 1, [])
  else
    ((recall_load l1 problems2).bind fun l4 =>
    (recall_problem_grow 0 0 l4.1 l4.2.1 l4.2.2.1 l4.2.2.2.1 l4.2.2.2.2).bind fun g5 =>
    bif (!g5.1) then
      some ([], 6, [])
    else
      (bif (eqZ g5.2.2.2.1 1099511627776) then
        some ([], 4, [])
      else
        ((loopF (fun x => recall_Plan_v2.b1 l1 g5 x.1 x.2) (0, [])).bind fun x =>
        recall_Plan_v2.j1 g5 x)))
/-- lading/ladinglaw46.RecallGrows -/
noncomputable def ladinglaw46_RecallGrows.j1 [Fuel] (v19 : Bool) : Option ((Unit) ⊕ (Bool)) :=
  bif v19 then
    some (.inr false)
  else
    some (.inl ())
noncomputable def ladinglaw46_RecallGrows.j2 [Fuel] (v21 : Int) (v22 : List GOption) (v24 : GOption) (v30 : Bool) : Option ((Int × List GOption) ⊕ (List GOption)) :=
  bif v30 then
    ((idx v22 v21).bind fun _31 =>
    (idx v22 v21).bind fun v32 =>
    (z64 ((v24.2.1.length : Int) - 1)).bind fun v33 =>
    (cut v32.2.1 0 v33).bind fun l34 =>
    (idx v22 v21).bind fun _35 =>
    (idx v22 v21).bind fun v36 =>
    (z64 (v21 + 1)).bind fun v37 =>
    some (.inl (v37, (v22.set v21.toNat (v36.1, l34, v36.2.2)))))
  else
    ((z64 (v21 + 1)).bind fun v38 =>
    some (.inl (v38, v22)))
noncomputable def ladinglaw46_RecallGrows.b1 [Fuel] (p2 : Int) (v21 : Int) (v22 : List GOption) : Option ((Int × List GOption) ⊕ (List GOption)) :=
  bif (ltZ v21 (v22.length : Int)) then
    ((idx v22 v21).bind fun _23 =>
    (idx v22 v21).bind fun v24 =>
    (bif (ltZ 0 (v24.2.1.length : Int)) then
      ((idx v22 v21).bind fun _25 =>
      (idx v22 v21).bind fun v26 =>
      (z64 ((v24.2.1.length : Int) - 1)).bind fun v27 =>
      (idx v26.2.1 v27).bind fun v28 =>
      (z64 (p2 - 1)).bind fun v29 =>
      some (eqZ v28 v29))
    else
      some false).bind fun x =>
    ladinglaw46_RecallGrows.j2 v21 v22 v24 x)
  else
    some (.inr v22)
noncomputable def ladinglaw46_RecallGrows.j3 [Fuel] (l1 : List GOption) (p2 : Int) (p4 : Int) (s5 : Bool) (c12 : Int) (v46 : Bool) : Option Bool :=
  bif v46 then
    some s5
  else
    ((app? ([] : List GOption) l1).bind fun l47 =>
    (idx l47 p4).bind fun _48 =>
    (idx l47 p4).bind fun v49 =>
    (z64 (v49.1 + 1)).bind fun v50 =>
    (idx l47 p4).bind fun _51 =>
    (idx l47 p4).bind fun v52 =>
    (recall_Plan (l47.set p4.toNat (v50, v52.2)) p2).bind fun p53 =>
    (recall_Cost (l47.set p4.toNat (v50, v52.2)) p53.1).bind fun c54 =>
    bif s5 then
      (bif (eqZ p53.2.2 6) then
        some true
      else
        (bif (eqZ p53.2.2 0) then
          (bif (eqZ c54 c12) then
            some true
          else
            ((z64 (c12 + 1)).bind fun v55 =>
            some (eqZ c54 v55)))
        else
          some false))
    else
      some false)
noncomputable def ladinglaw46_RecallGrows.j4 [Fuel] (l1 : List GOption) (p2 : Int) (p4 : Int) (s5 : Bool) (c12 : Int) (v44 : Bool) : Option Bool :=
  bif v44 then
    some false
  else
    ((bif (ltZ p4 0) then
      some true
    else
      (bif (leZ (l1.length : Int) p4) then
        some true
      else
        ((idx l1 p4).bind fun v45 =>
        some (eqZ v45.1 1073741824)))).bind fun x =>
    ladinglaw46_RecallGrows.j3 l1 p2 p4 s5 c12 x)
noncomputable def ladinglaw46_RecallGrows.j5 [Fuel] (l1 : List GOption) (p2 : Int) (p4 : Int) (s5 : Bool) (c12 : Int) (v39 : List GOption) : Option Bool :=
  (z64 (p2 - 1)).bind fun v40 =>
  (recall_Plan v39 v40).bind fun p41 =>
  (bif (!eqZ p41.2.2 0) then
    (bif (!eqZ p41.2.2 6) then
      some true
    else
      (bif (eqZ p41.2.2 0) then
        ((recall_Cost v39 p41.1).bind fun c42 =>
        some (ltZ c12 c42))
      else
        some false))
  else
    (bif (eqZ p41.2.2 0) then
      ((recall_Cost v39 p41.1).bind fun c43 =>
      some (ltZ c12 c43))
    else
      some false)).bind fun x =>
  ladinglaw46_RecallGrows.j4 l1 p2 p4 s5 c12 x
noncomputable def ladinglaw46_RecallGrows.j6 [Fuel] (l1 : List GOption) (p2 : Int) (p4 : Int) (s5 : Bool) (c12 : Int) : Option Bool :=
  (app? ([] : List GOption) l1).bind fun l20 =>
  (loopF (fun x => ladinglaw46_RecallGrows.b1 p2 x.1 x.2) (0, l20)).bind fun x =>
  ladinglaw46_RecallGrows.j5 l1 p2 p4 s5 c12 x
noncomputable def ladinglaw46_RecallGrows.j7 [Fuel] (l1 : List GOption) (p2 : Int) (p3 : GOption) (p4 : Int) (s5 : Bool) (v10 : Bool) : Option Bool :=
  bif v10 then
    some s5
  else
    ((recall_Plan l1 p2).bind fun p11 =>
    bif (!eqZ p11.2.2 0) then
      some s5
    else
      ((recall_Cost l1 p11.1).bind fun c12 =>
      (app? ([] : List GOption) l1).bind fun l13 =>
      (app? l13 ([p3] : List GOption)).bind fun l14 =>
      ((recall_Right l14 p2).bind fun r15 =>
      bif r15 then
        ((recall_Plan l14 p2).bind fun p16 =>
        (bif (!eqZ p16.2.2 0) then
          (bif (!eqZ p16.2.2 6) then
            some true
          else
            (bif (eqZ p16.2.2 0) then
              ((recall_Cost l14 p16.1).bind fun c17 =>
              some (ltZ c12 c17))
            else
              some false))
        else
          (bif (eqZ p16.2.2 0) then
            ((recall_Cost l14 p16.1).bind fun c18 =>
            some (ltZ c12 c18))
          else
            some false)).bind fun x =>
        ladinglaw46_RecallGrows.j1 x)
      else
        some (.inl ())).bind fun x => match x with
      | .inl x =>
        ladinglaw46_RecallGrows.j6 l1 p2 p4 s5 c12
      | .inr r => some r))
noncomputable def ladinglaw46_RecallGrows [Fuel] (l1 : List GOption) (p2 : Int) (p3 : GOption) (p4 : Int) : Option Bool :=
  (ladinglaw46_small).bind fun s5 =>
  ((app? ([] : List GOption) l1).bind fun l6 =>
  (app? l6 ([p3] : List GOption)).bind fun l7 =>
  (ladinglaw46_light l7 13).bind fun l8 =>
  bif (!l8) then
    some true
  else
    (bif (ltZ p2 1) then
      some true
    else
      (bif (ltZ 20 p2) then
        some true
      else
        ((recall_Right l1 p2).bind fun r9 =>
        some (!r9))))).bind fun x =>
  ladinglaw46_RecallGrows.j7 l1 p2 p3 p4 s5 x
end Go.Proofs.Ytonjhmnbcgchbaa
