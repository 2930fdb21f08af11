/-
  The functions as plain Lean.
-/
import Derived.Test.YtbkdiclfhoelbaaD2
import Derived.Test.YtbkdiclfhoelbaaProg
import Derived.KernelRfl
namespace Go.Proofs.Ytbkdiclfhoelbaa
open Go.Lad
set_option linter.unusedVariables false
/-- Kind, Fact, Need -/
abbrev GWhy : Type := Int × Int × Int
/-- Lits, Why -/
abbrev GClause : Type := (List Int) × GWhy
/-- lading/ladinglaw26.of -/
noncomputable def ladinglaw26_of [Fuel] (lits1 : List Int) : Option GClause :=
  some (lits1, 0, 0, 0)
/-- lading/clause.lit -/
noncomputable def clause_lit [Fuel] (x1 : Int) : Option Bool :=
  bif (!eqZ x1 0) then
    (bif (leZ (-2000) x1) then
      some (leZ x1 2000)
    else
      some false)
  else
    some false
/-- slices.Index[[]int,int] -/
noncomputable def slices_Index_int_int.b1 [Fuel] (s1 : List Int) (p2 : Int) (v3 : Int) : Option ((Int) ⊕ (Int)) :=
  bif (ltZ v3 (s1.length : Int)) then
    ((idx s1 v3).bind fun v4 =>
    bif (eqZ p2 v4) then
      some (.inr v3)
    else
      ((z64 (v3 + 1)).bind fun v5 =>
      some (.inl v5)))
  else
    some (.inr (-1))
noncomputable def slices_Index_int_int [Fuel] (s1 : List Int) (p2 : Int) : Option Int :=
  loopF (fun x => slices_Index_int_int.b1 s1 p2 x) 0
/-- slices.Contains[[]int,int] -/
noncomputable def slices_Contains_int_int [Fuel] (s1 : List Int) (p2 : Int) : Option Bool :=
  (slices_Index_int_int s1 p2).bind fun i3 =>
  some (leZ 0 i3)
/-- (*lading/clause.base).add -/
noncomputable def clause_base_add.j1 [Fuel] (v3 : Int) (own4 : List Int) (v5 : List (Int × List Int)) (v6 : Int) (v9 : Bool) : Option ((Int × (List Int) × List (Int × List Int)) ⊕ ((List (List Int)) × List (Int × List Int))) :=
  bif v9 then
    ((app? own4 ([v6] : List Int)).bind fun l10 =>
    (app? ((lookM v5 v6).getD []) ([0] : List Int)).bind fun l11 =>
    (need (v6 = v6)).bind fun _12 =>
    (z64 (v3 + 1)).bind fun v13 =>
    some (.inl (v13, l10, (putM v5 v6 l11))))
  else
    ((z64 (v3 + 1)).bind fun v14 =>
    some (.inl (v14, own4, v5)))
noncomputable def clause_base_add.b1 [Fuel] (lits1 : List Int) (v3 : Int) (own4 : List Int) (v5 : List (Int × List Int)) : Option ((Int × (List Int) × List (Int × List Int)) ⊕ ((List (List Int)) × List (Int × List Int))) :=
  bif (ltZ v3 (lits1.length : Int)) then
    ((idx lits1 v3).bind fun v6 =>
    ((clause_lit v6).bind fun l7 =>
    bif l7 then
      ((slices_Contains_int_int own4 v6).bind fun i8 =>
      some (!i8))
    else
      some false).bind fun x =>
    clause_base_add.j1 v3 own4 v5 v6 x)
  else
    (Option.map Sum.inr ((app? [] ([own4] : List (List Int))).bind fun l15 =>
    some (l15, v5)))
noncomputable def clause_base_add [Fuel] (lits1 : List Int) (p2 : List (Int × List Int)) : Option ((List (List Int)) × List (Int × List Int)) :=
  loopF (fun x => clause_base_add.b1 lits1 x.1 x.2.1 x.2.2) (0, [], p2)
/-- (*lading/clause.base).add -/
noncomputable def clause_base_add_v2.j1 [Fuel] (v4 : Int) (own5 : List Int) (v6 : List (Int × List Int)) (v7 : List (List Int)) (v8 : Int) (v11 : Bool) : Option ((Int × (List Int) × (List (Int × List Int)) × List (List Int)) ⊕ ((List (List Int)) × List (Int × List Int))) :=
  bif v11 then
    ((app? own5 ([v8] : List Int)).bind fun l12 =>
    (app? ((lookM v6 v8).getD []) ([(v7.length : Int)] : List Int)).bind fun l13 =>
    (need (v8 = v8)).bind fun _14 =>
    (z64 (v4 + 1)).bind fun v15 =>
    some (.inl (v15, l12, (putM v6 v8 l13), v7)))
  else
    ((z64 (v4 + 1)).bind fun v16 =>
    some (.inl (v16, own5, v6, v7)))
noncomputable def clause_base_add_v2.b1 [Fuel] (lits1 : List Int) (v4 : Int) (own5 : List Int) (v6 : List (Int × List Int)) (v7 : List (List Int)) : Option ((Int × (List Int) × (List (Int × List Int)) × List (List Int)) ⊕ ((List (List Int)) × List (Int × List Int))) :=
  bif (ltZ v4 (lits1.length : Int)) then
    ((idx lits1 v4).bind fun v8 =>
    ((clause_lit v8).bind fun l9 =>
    bif l9 then
      ((slices_Contains_int_int own5 v8).bind fun i10 =>
      some (!i10))
    else
      some false).bind fun x =>
    clause_base_add_v2.j1 v4 own5 v6 v7 v8 x)
  else
    (Option.map Sum.inr ((app? v7 ([own5] : List (List Int))).bind fun l17 =>
    some (l17, v6)))
noncomputable def clause_base_add_v2 [Fuel] (lits1 : List Int) (p2 : List (List Int)) (p3 : List (Int × List Int)) : Option ((List (List Int)) × List (Int × List Int)) :=
  loopF (fun x => clause_base_add_v2.b1 lits1 x.1 x.2.1 x.2.2.1 x.2.2.2) (0, [], p3, p2)
/-- lading/clause.load -/
noncomputable def clause_load.b1 [Fuel] (l1 : List GClause) (v2 : Int) (v3 : List (List Int)) (v4 : List (Int × List Int)) : Option ((Int × (List (List Int)) × List (Int × List Int)) ⊕ ((List (List Int)) × List (Int × List Int))) :=
  bif (ltZ v2 (l1.length : Int)) then
    ((idx l1 v2).bind fun v5 =>
    (clause_base_add_v2 v5.1 v3 v4).bind fun v6 =>
    (z64 (v2 + 1)).bind fun v7 =>
    some (.inl (v7, v6.1, v6.2)))
  else
    some (.inr (v3, v4))
noncomputable def clause_load [Fuel] (l1 : List GClause) : Option ((List (List Int)) × List (Int × List Int)) :=
  loopF (fun x => clause_load.b1 l1 x.1 x.2.1 x.2.2) (0, [], ([] : List (Int × List Int)))
/-- slices.Clone[[]int,int] -/
noncomputable def slices_Clone_int_int [Fuel] (s1 : List Int) : Option (List Int) :=
  bothN s1 (
    some []) (
    (app? ([] : List Int) s1).bind fun l2 =>
    some l2)
/-- (*lading/clause.base).close$1 -/
noncomputable def clause_base_close_1 [Fuel] (x1 : Int) : Option Bool :=
  (clause_lit x1).bind fun l2 =>
  some (!l2)
/-- slices.IndexFunc[[]int,int] -/
noncomputable def slices_IndexFunc_int_int.b1 [Fuel] (s1 : List Int) (v2 : Int) : Option ((Int) ⊕ (Int)) :=
  bif (ltZ v2 (s1.length : Int)) then
    ((idx s1 v2).bind fun v3 =>
    (clause_base_close_1 v3).bind fun v'4 =>
    bif v'4 then
      some (.inr v2)
    else
      ((z64 (v2 + 1)).bind fun v5 =>
      some (.inl v5)))
  else
    some (.inr (-1))
noncomputable def slices_IndexFunc_int_int [Fuel] (s1 : List Int) : Option Int :=
  loopF (fun x => slices_IndexFunc_int_int.b1 s1 x) 0
/-- slices.DeleteFunc[[]int,int] -/
noncomputable def slices_DeleteFunc_int_int.b1 [Fuel] (i4 : Int) (j5 : Int) (s6 : List Int) : Option ((Int × Int × List Int) ⊕ (List Int)) :=
  bif (ltZ j5 (s6.length : Int)) then
    ((idx s6 j5).bind fun _7 =>
    (idx s6 j5).bind fun v8 =>
    (clause_base_close_1 v8).bind fun v'9 =>
    bif (!v'9) then
      ((idx s6 i4).bind fun _10 =>
      (idx s6 i4).bind fun v11 =>
      (z64 (i4 + 1)).bind fun v12 =>
      (z64 (j5 + 1)).bind fun v13 =>
      some (.inl (v12, v13, (s6.set i4.toNat v8))))
    else
      ((z64 (j5 + 1)).bind fun v14 =>
      some (.inl (i4, v14, s6))))
  else
    (Option.map Sum.inr ((cut s6 i4 (s6.length : Int)).bind fun _15 =>
    (need (i4.toNat ≤ (s6.length : Int).toNat ∧ (s6.length : Int).toNat ≤ s6.length)).bind fun _16 =>
    (cut (clrT s6 i4 (s6.length : Int) 0) 0 i4).bind fun l17 =>
    some l17))
noncomputable def slices_DeleteFunc_int_int [Fuel] (s1 : List Int) : Option (List Int) :=
  (slices_IndexFunc_int_int s1).bind fun i2 =>
  bif (eqZ i2 (-1)) then
    some s1
  else
    ((z64 (i2 + 1)).bind fun v3 =>
    loopF (fun x => slices_DeleteFunc_int_int.b1 x.1 x.2.1 x.2.2) (i2, v3, s1))
/-- lading/clause.look -/
noncomputable def clause_look.b1 [Fuel] (c1 : List Int) (in2 : List Bool) (left3 : Int) (v4 : Int) : Option ((Int × Int) ⊕ (Int × Bool)) :=
  bif (ltZ v4 (c1.length : Int)) then
    ((idx c1 v4).bind fun v5 =>
    (z64 ((2000 : Int) - v5)).bind fun v6 =>
    (vNeed v6 4001).bind fun _7 =>
    (idx in2 v6).bind fun _8 =>
    (idx in2 v6).bind fun v9 =>
    bif v9 then
      ((z64 (v4 + 1)).bind fun v10 =>
      some (.inl (left3, v10)))
    else
      (bif (!eqZ left3 0) then
        some (.inr (0, false))
      else
        ((z64 (v4 + 1)).bind fun v11 =>
        some (.inl (v5, v11)))))
  else
    some (.inr (left3, true))
noncomputable def clause_look [Fuel] (c1 : List Int) (in2 : List Bool) : Option (Int × Bool) :=
  loopF (fun x => clause_look.b1 c1 in2 x.1 x.2) (0, 0)
/-- (*lading/clause.base).close -/
noncomputable def clause_base_close.b1 [Fuel] (b1 : (List (List Int)) × List (Int × List Int)) (v5 : Int) (v6 : List Int) : Option ((Int × List Int) ⊕ ((List Int) ⊕ (Bool × List Bool))) :=
  bif (ltZ v5 (b1.1.length : Int)) then
    ((idx b1.1 v5).bind fun v7 =>
    bif (eqZ (v7.length : Int) 0) then
      some (.inr (.inr (false, (List.replicate 4001 false))))
    else
      ((idx b1.1 v5).bind fun v8 =>
      bif (eqZ (v8.length : Int) 1) then
        ((idx b1.1 v5).bind fun v9 =>
        (idx v9 0).bind fun v10 =>
        (app? v6 ([v10] : List Int)).bind fun l11 =>
        (z64 (v5 + 1)).bind fun v12 =>
        some (.inl (v12, l11)))
      else
        ((z64 (v5 + 1)).bind fun v13 =>
        some (.inl (v13, v6)))))
  else
    some (.inr (.inl v6))
noncomputable def clause_base_close.j1 [Fuel] (v15 : List Bool) (v24 : Int) (v33 : Int) (v34 : List Int) (l37 : Int × Bool) (v38 : Bool) : Option ((Int × List Int) ⊕ (((List Bool) × List Int) ⊕ (Bool × List Bool))) :=
  bif v38 then
    some (.inr (.inr (false, (v15.set v24.toNat true))))
  else
    (bif l37.2 then
      ((app? v34 ([l37.1] : List Int)).bind fun l39 =>
      (z64 (v33 + 1)).bind fun v40 =>
      some (.inl (v40, l39)))
    else
      ((z64 (v33 + 1)).bind fun v41 =>
      some (.inl (v41, v34))))
noncomputable def clause_base_close.b2 [Fuel] (b1 : (List (List Int)) × List (Int × List Int)) (v15 : List Bool) (v24 : Int) (v32 : Int) (v33 : Int) (v34 : List Int) : Option ((Int × List Int) ⊕ (((List Bool) × List Int) ⊕ (Bool × List Bool))) :=
  bif (ltZ v33 (((lookM b1.2 v32).getD []).length : Int)) then
    ((idx ((lookM b1.2 v32).getD []) v33).bind fun v35 =>
    (idx b1.1 v35).bind fun v36 =>
    (clause_look v36 (v15.set v24.toNat true)).bind fun l37 =>
    (bif l37.2 then
      some (eqZ l37.1 0)
    else
      some false).bind fun x =>
    clause_base_close.j1 v15 v24 v33 v34 l37 x)
  else
    some (.inr (.inl ((v15.set v24.toNat true), v34)))
noncomputable def clause_base_close.b3 [Fuel] (b1 : (List (List Int)) × List (Int × List Int)) (v15 : List Bool) (v16 : List Int) : Option (((List Bool) × List Int) ⊕ (Bool × List Bool)) :=
  bif (ltZ 0 (v16.length : Int)) then
    ((idx v16 0).bind fun _17 =>
    (idx v16 0).bind fun v18 =>
    (cut v16 1 (v16.length : Int)).bind fun l19 =>
    (z64 ((2000 : Int) + v18)).bind fun v20 =>
    (vNeed v20 4001).bind fun _21 =>
    (idx v15 v20).bind fun _22 =>
    (idx v15 v20).bind fun v23 =>
    bif v23 then
      some (.inl (v15, l19))
    else
      ((z64 ((2000 : Int) + v18)).bind fun v24 =>
      (vNeed v24 4001).bind fun _25 =>
      (idx v15 v24).bind fun _26 =>
      (idx v15 v24).bind fun v27 =>
      (z64 ((2000 : Int) - v18)).bind fun v28 =>
      (vNeed v28 4001).bind fun _29 =>
      (idx (v15.set v24.toNat true) v28).bind fun _30 =>
      (idx (v15.set v24.toNat true) v28).bind fun v31 =>
      bif v31 then
        some (.inr (false, (v15.set v24.toNat true)))
      else
        ((z64 (-v18)).bind fun v32 =>
        loopF (fun x => clause_base_close.b2 b1 v15 v24 v32 x.1 x.2) (0, l19))))
  else
    some (.inr (true, v15))
noncomputable def clause_base_close.j2 [Fuel] (b1 : (List (List Int)) × List (Int × List Int)) (v14 : List Int) : Option (Bool × List Bool) :=
  loopF (fun x => clause_base_close.b3 b1 x.1 x.2) ((List.replicate 4001 false), v14)
noncomputable def clause_base_close [Fuel] (b1 : (List (List Int)) × List (Int × List Int)) (p2 : List Int) : Option (Bool × List Bool) :=
  (slices_Clone_int_int p2).bind fun i3 =>
  (slices_DeleteFunc_int_int i3).bind fun i4 =>
  (loopF (fun x => clause_base_close.b1 b1 x.1 x.2) (0, i4)).bind fun x => match x with
  | .inl x =>
    clause_base_close.j2 b1 x
  | .inr r => some r
/-- lading/clause.Propagate -/
noncomputable def clause_Propagate.b1 [Fuel] (c4 : Bool × List Bool) (v5 : Int) (out6 : List Int) : Option ((Int × List Int) ⊕ ((List Int) × Bool)) :=
  bif (ltZ v5 4001) then
    ((vNeed v5 4001).bind fun _7 =>
    (idx c4.2 v5).bind fun _8 =>
    (idx c4.2 v5).bind fun v9 =>
    bif v9 then
      ((z64 (v5 - 2000)).bind fun v10 =>
      (app? out6 ([v10] : List Int)).bind fun l11 =>
      (z64 (v5 + 1)).bind fun v12 =>
      some (.inl (v12, l11)))
    else
      ((z64 (v5 + 1)).bind fun v13 =>
      some (.inl (v13, out6))))
  else
    some (.inr (out6, true))
noncomputable def clause_Propagate [Fuel] (l1 : List GClause) (lits2 : List Int) : Option ((List Int) × Bool) :=
  (clause_load l1).bind fun l3 =>
  (clause_base_close l3 lits2).bind fun c4 =>
  bif (!c4.1) then
    some ([], false)
  else
    (loopF (fun x => clause_Propagate.b1 c4 x.1 x.2) (0, []))
/-- lading/ladingref26.Same -/
noncomputable def ladingref26_Same.b1 [Fuel] (a1 : List Int) (b2 : List Int) (i3 : Int) : Option ((Int) ⊕ (Bool)) :=
  bif (ltZ i3 (a1.length : Int)) then
    ((idx a1 i3).bind fun v4 =>
    (idx b2 i3).bind fun v5 =>
    bif (!eqZ v4 v5) then
      some (.inr false)
    else
      ((z64 (i3 + 1)).bind fun v6 =>
      some (.inl v6)))
  else
    some (.inr true)
noncomputable def ladingref26_Same [Fuel] (a1 : List Int) (b2 : List Int) : Option Bool :=
  bif (!eqZ (a1.length : Int) (b2.length : Int)) then
    some false
  else
    (loopF (fun x => ladingref26_Same.b1 a1 b2 x) 0)
/-- (*lading/clause.base).follows -/
noncomputable def clause_base_follows.b1 [Fuel] (lits2 : List Int) (v3 : Int) (not4 : List Int) : Option ((Int × List Int) ⊕ (List Int)) :=
  bif (ltZ v3 (lits2.length : Int)) then
    ((idx lits2 v3).bind fun v5 =>
    (clause_lit v5).bind fun l6 =>
    bif l6 then
      ((z64 (-v5)).bind fun v7 =>
      (app? not4 ([v7] : List Int)).bind fun l8 =>
      (z64 (v3 + 1)).bind fun v9 =>
      some (.inl (v9, l8)))
    else
      ((z64 (v3 + 1)).bind fun v10 =>
      some (.inl (v10, not4))))
  else
    some (.inr not4)
noncomputable def clause_base_follows.j1 [Fuel] (b1 : (List (List Int)) × List (Int × List Int)) (not11 : List Int) : Option Bool :=
  (clause_base_close b1 not11).bind fun c12 =>
  some (!c12.1)
noncomputable def clause_base_follows [Fuel] (b1 : (List (List Int)) × List (Int × List Int)) (lits2 : List Int) : Option Bool :=
  (loopF (fun x => clause_base_follows.b1 lits2 x.1 x.2) (0, [])).bind fun x =>
  clause_base_follows.j1 b1 x
/-- lading/clause.Follows -/
noncomputable def clause_Follows [Fuel] (l1 : List GClause) (lits2 : List Int) : Option Bool :=
  (clause_load l1).bind fun l3 =>
  (clause_base_follows l3 lits2).bind fun f4 =>
  some f4
/-- slices.IndexFunc[[]int,int] -/
noncomputable def slices_IndexFunc_int_int_v2.b1 [Fuel] (s1 : List Int) (v2 : Int) : Option ((Int) ⊕ (Int)) :=
  bif (ltZ v2 (s1.length : Int)) then
    ((idx s1 v2).bind fun v3 =>
    (clause_lit v3).bind fun l4 =>
    bif l4 then
      some (.inr v2)
    else
      ((z64 (v2 + 1)).bind fun v5 =>
      some (.inl v5)))
  else
    some (.inr (-1))
noncomputable def slices_IndexFunc_int_int_v2 [Fuel] (s1 : List Int) : Option Int :=
  loopF (fun x => slices_IndexFunc_int_int_v2.b1 s1 x) 0
/-- slices.ContainsFunc[[]int,int] -/
noncomputable def slices_ContainsFunc_int_int [Fuel] (s1 : List Int) : Option Bool :=
  (slices_IndexFunc_int_int_v2 s1).bind fun v2 =>
  some (leZ 0 v2)
/-- lading/clause.Proof -/
noncomputable def clause_Proof.b1 [Fuel] (learnt2 : List (List Int)) (v8 : Int) (v9 : List (List Int)) (v10 : List (Int × List Int)) : Option ((Int × (List (List Int)) × List (Int × List Int)) ⊕ (Int)) :=
  bif (ltZ v8 (learnt2.length : Int)) then
    ((idx learnt2 v8).bind fun v11 =>
    (clause_base_follows (v9, v10) v11).bind fun f12 =>
    bif (!f12) then
      some (.inr 19)
    else
      ((clause_base_add_v2 v11 v9 v10).bind fun v13 =>
      (z64 (v8 + 1)).bind fun v14 =>
      some (.inl (v14, v13.1, v13.2))))
  else
    some (.inr 0)
noncomputable def clause_Proof.j1 [Fuel] (l1 : List GClause) (learnt2 : List (List Int)) (v6 : Bool) : Option Int :=
  bif v6 then
    some 19
  else
    ((clause_load l1).bind fun l7 =>
    loopF (fun x => clause_Proof.b1 learnt2 x.1 x.2.1 x.2.2) (0, l7.1, l7.2))
noncomputable def clause_Proof [Fuel] (l1 : List GClause) (learnt2 : List (List Int)) : Option Int :=
  bif (ltZ 4000 (learnt2.length : Int)) then
    some 6
  else
    ((bif (eqZ (learnt2.length : Int) 0) then
      some true
    else
      ((z64 ((learnt2.length : Int) - 1)).bind fun v3 =>
      (idx learnt2 v3).bind fun v4 =>
      (slices_ContainsFunc_int_int v4).bind fun i5 =>
      some i5)).bind fun x =>
    clause_Proof.j1 l1 learnt2 x)
/-- lading/clause.Right$1$1 -/
noncomputable def clause_Right_1_1 [Fuel] (x1 : Int) (p2 : Int) : Option Bool :=
  bif (eqZ x1 0) then
    some true
  else
    ((z64 (-p2)).bind fun v3 =>
    bif (ltZ x1 v3) then
      some true
    else
      some (ltZ p2 x1))
/-- slices.IndexFunc[[]int,int] -/
noncomputable def slices_IndexFunc_int_int_v3.b1 [Fuel] (s1 : List Int) (p2 : Int) (v3 : Int) : Option ((Int) ⊕ (Int)) :=
  bif (ltZ v3 (s1.length : Int)) then
    ((idx s1 v3).bind fun v4 =>
    (clause_Right_1_1 v4 p2).bind fun v'5 =>
    bif v'5 then
      some (.inr v3)
    else
      ((z64 (v3 + 1)).bind fun v6 =>
      some (.inl v6)))
  else
    some (.inr (-1))
noncomputable def slices_IndexFunc_int_int_v3 [Fuel] (s1 : List Int) (p2 : Int) : Option Int :=
  loopF (fun x => slices_IndexFunc_int_int_v3.b1 s1 p2 x) 0
/-- slices.ContainsFunc[[]int,int] -/
noncomputable def slices_ContainsFunc_int_int_v2 [Fuel] (s1 : List Int) (p2 : Int) : Option Bool :=
  (slices_IndexFunc_int_int_v3 s1 p2).bind fun v3 =>
  some (leZ 0 v3)
/-- lading/clause.Right$1 -/
noncomputable def clause_Right_1 [Fuel] (c1 : GClause) (p2 : Int) : Option Bool :=
  (slices_ContainsFunc_int_int_v2 c1.1 p2).bind fun v3 =>
  some v3
/-- slices.IndexFunc[[]lading/api.Clause,lading/api.Clause] -/
noncomputable def slices_IndexFunc_api_Clause_api_Clause.b1 [Fuel] (s1 : List GClause) (p2 : Int) (v3 : Int) : Option ((Int) ⊕ (Int)) :=
  bif (ltZ v3 (s1.length : Int)) then
    ((idx s1 v3).bind fun v4 =>
    (clause_Right_1 v4 p2).bind fun v'5 =>
    bif v'5 then
      some (.inr v3)
    else
      ((z64 (v3 + 1)).bind fun v6 =>
      some (.inl v6)))
  else
    some (.inr (-1))
noncomputable def slices_IndexFunc_api_Clause_api_Clause [Fuel] (s1 : List GClause) (p2 : Int) : Option Int :=
  loopF (fun x => slices_IndexFunc_api_Clause_api_Clause.b1 s1 p2 x) 0
/-- slices.ContainsFunc[[]lading/api.Clause,lading/api.Clause] -/
noncomputable def slices_ContainsFunc_api_Clause_api_Clause [Fuel] (s1 : List GClause) (p2 : Int) : Option Bool :=
  (slices_IndexFunc_api_Clause_api_Clause s1 p2).bind fun c3 =>
  some (leZ 0 c3)
/-- lading/clause.Right -/
noncomputable def clause_Right.j1 [Fuel] (l1 : List GClause) (n2 : Int) (v3 : Bool) : Option Bool :=
  bif v3 then
    some false
  else
    ((slices_ContainsFunc_api_Clause_api_Clause l1 n2).bind fun c4 =>
    some (!c4))
noncomputable def clause_Right [Fuel] (l1 : List GClause) (n2 : Int) : Option Bool :=
  (bif (ltZ n2 0) then
    some true
  else
    (bif (ltZ 2000 n2) then
      some true
    else
      some (ltZ 20000 (l1.length : Int)))).bind fun x =>
  clause_Right.j1 l1 n2 x
/-- lading/clause.Holds$1$1 -/
noncomputable def clause_Holds_1_1 [Fuel] (x1 : Int) (p2 : Int) (p3 : List Bool) : Option Bool :=
  bif (ltZ 0 x1) then
    (bif (leZ x1 p2) then
      ((z64 (x1 - 1)).bind fun v4 =>
      (idx p3 v4).bind fun v5 =>
      bif v5 then
        some true
      else
        (bif (ltZ x1 0) then
          ((z64 (-p2)).bind fun v6 =>
          bif (leZ v6 x1) then
            ((z64 (-x1)).bind fun v7 =>
            (z64 (v7 - 1)).bind fun v8 =>
            (idx p3 v8).bind fun v9 =>
            some (!v9))
          else
            some false)
        else
          some false))
    else
      (bif (ltZ x1 0) then
        ((z64 (-p2)).bind fun v10 =>
        bif (leZ v10 x1) then
          ((z64 (-x1)).bind fun v11 =>
          (z64 (v11 - 1)).bind fun v12 =>
          (idx p3 v12).bind fun v13 =>
          some (!v13))
        else
          some false)
      else
        some false))
  else
    (bif (ltZ x1 0) then
      ((z64 (-p2)).bind fun v14 =>
      bif (leZ v14 x1) then
        ((z64 (-x1)).bind fun v15 =>
        (z64 (v15 - 1)).bind fun v16 =>
        (idx p3 v16).bind fun v17 =>
        some (!v17))
      else
        some false)
    else
      some false)
/-- slices.IndexFunc[[]int,int] -/
noncomputable def slices_IndexFunc_int_int_v4.b1 [Fuel] (s1 : List Int) (p2 : Int) (p3 : List Bool) (v4 : Int) : Option ((Int) ⊕ (Int)) :=
  bif (ltZ v4 (s1.length : Int)) then
    ((idx s1 v4).bind fun v5 =>
    (clause_Holds_1_1 v5 p2 p3).bind fun v'6 =>
    bif v'6 then
      some (.inr v4)
    else
      ((z64 (v4 + 1)).bind fun v7 =>
      some (.inl v7)))
  else
    some (.inr (-1))
noncomputable def slices_IndexFunc_int_int_v4 [Fuel] (s1 : List Int) (p2 : Int) (p3 : List Bool) : Option Int :=
  loopF (fun x => slices_IndexFunc_int_int_v4.b1 s1 p2 p3 x) 0
/-- slices.ContainsFunc[[]int,int] -/
noncomputable def slices_ContainsFunc_int_int_v3 [Fuel] (s1 : List Int) (p2 : Int) (p3 : List Bool) : Option Bool :=
  (slices_IndexFunc_int_int_v4 s1 p2 p3).bind fun v4 =>
  some (leZ 0 v4)
/-- lading/clause.Holds$1 -/
noncomputable def clause_Holds_1 [Fuel] (c1 : GClause) (p2 : Int) (p3 : List Bool) : Option Bool :=
  (slices_ContainsFunc_int_int_v3 c1.1 p2 p3).bind fun v4 =>
  some (!v4)
/-- slices.IndexFunc[[]lading/api.Clause,lading/api.Clause] -/
noncomputable def slices_IndexFunc_api_Clause_api_Clause_v2.b1 [Fuel] (s1 : List GClause) (p2 : Int) (p3 : List Bool) (v4 : Int) : Option ((Int) ⊕ (Int)) :=
  bif (ltZ v4 (s1.length : Int)) then
    ((idx s1 v4).bind fun v5 =>
    (clause_Holds_1 v5 p2 p3).bind fun v'6 =>
    bif v'6 then
      some (.inr v4)
    else
      ((z64 (v4 + 1)).bind fun v7 =>
      some (.inl v7)))
  else
    some (.inr (-1))
noncomputable def slices_IndexFunc_api_Clause_api_Clause_v2 [Fuel] (s1 : List GClause) (p2 : Int) (p3 : List Bool) : Option Int :=
  loopF (fun x => slices_IndexFunc_api_Clause_api_Clause_v2.b1 s1 p2 p3 x) 0
/-- slices.ContainsFunc[[]lading/api.Clause,lading/api.Clause] -/
noncomputable def slices_ContainsFunc_api_Clause_api_Clause_v2 [Fuel] (s1 : List GClause) (p2 : Int) (p3 : List Bool) : Option Bool :=
  (slices_IndexFunc_api_Clause_api_Clause_v2 s1 p2 p3).bind fun v4 =>
  some (leZ 0 v4)
/-- lading/clause.Holds -/
noncomputable def clause_Holds [Fuel] (l1 : List GClause) (model2 : List Bool) : Option Bool :=
  (slices_ContainsFunc_api_Clause_api_Clause_v2 l1 (min (model2.length : Int) 2000) model2).bind fun v3 =>
  some (!v3)
/-- lading/ladinglaw26.small -/
noncomputable def ladinglaw26_small.j1 [Fuel] (o4 : GClause) (o5 : GClause) (l8 : List GClause) (v12 : Bool) : Option Bool :=
  bif v12 then
    ((clause_Proof l8 ([([1] : List Int), ([] : List Int)] : List (List Int))).bind fun p13 =>
    bif (eqZ p13 0) then
      ((clause_Proof l8 ([([] : List Int)] : List (List Int))).bind fun p14 =>
      bif (eqZ p14 19) then
        ((clause_Right l8 2).bind fun r15 =>
        bif r15 then
          ((clause_Right l8 1).bind fun r16 =>
          bif (!r16) then
            ((clause_Holds ([o4, o5] : List GClause) ([true, false] : List Bool)).bind fun h17 =>
            some h17)
          else
            some false)
        else
          some false)
      else
        some false)
    else
      some false)
  else
    some false
noncomputable def ladinglaw26_small [Fuel] : Option Bool :=
  (ladinglaw26_of ([1, 2] : List Int)).bind fun o1 =>
  (ladinglaw26_of ([(-2), 3] : List Int)).bind fun o2 =>
  (clause_Propagate ([o1, o2] : List GClause) ([(-1)] : List Int)).bind fun p3 =>
  (ladinglaw26_of ([1, 2] : List Int)).bind fun o4 =>
  (ladinglaw26_of ([1, (-2)] : List Int)).bind fun o5 =>
  (ladinglaw26_of ([(-1), 2] : List Int)).bind fun o6 =>
  (ladinglaw26_of ([(-1), (-2)] : List Int)).bind fun o7 =>
  (appT? ([o4, o5] : List GClause) ([o6, o7] : List GClause)).bind fun l8 =>
  (bif p3.2 then
    ((ladingref26_Same p3.1 ([(-1), 2, 3] : List Int)).bind fun s9 =>
    bif s9 then
      ((clause_Follows ([o4, o5] : List GClause) ([1] : List Int)).bind fun f10 =>
      bif f10 then
        ((clause_Follows ([o4, o5] : List GClause) ([2] : List Int)).bind fun f11 =>
        some (!f11))
      else
        some false)
    else
      some false)
  else
    some false).bind fun x =>
  ladinglaw26_small.j1 o4 o5 l8 x
/-- lading/ladinglaw26.light -/
noncomputable def ladinglaw26_light.j1 [Fuel] (l1 : List GClause) (n2 : Int) (i3 : Int) (v4 : Bool) : Option ((Int) ⊕ (Bool)) :=
  bif v4 then
    ((idx l1 i3).bind fun v5 =>
    bif (ltZ 8 (v5.1.length : Int)) then
      some (.inr false)
    else
      ((z64 (i3 + 1)).bind fun v6 =>
      some (.inl v6)))
  else
    some (.inr (leZ (l1.length : Int) n2))
noncomputable def ladinglaw26_light.b1 [Fuel] (l1 : List GClause) (n2 : Int) (i3 : Int) : Option ((Int) ⊕ (Bool)) :=
  (bif (ltZ i3 (l1.length : Int)) then
    some (leZ i3 n2)
  else
    some false).bind fun x =>
  ladinglaw26_light.j1 l1 n2 i3 x
noncomputable def ladinglaw26_light [Fuel] (l1 : List GClause) (n2 : Int) : Option Bool :=
  loopF (fun x => ladinglaw26_light.b1 l1 n2 x) 0
/-- lading/ladinglaw26.few -/
noncomputable def ladinglaw26_few.j1 [Fuel] (l1 : List (List Int)) (n2 : Int) (i3 : Int) (v4 : Bool) : Option ((Int) ⊕ (Bool)) :=
  bif v4 then
    ((idx l1 i3).bind fun v5 =>
    bif (ltZ 8 (v5.length : Int)) then
      some (.inr false)
    else
      ((z64 (i3 + 1)).bind fun v6 =>
      some (.inl v6)))
  else
    some (.inr (leZ (l1.length : Int) n2))
noncomputable def ladinglaw26_few.b1 [Fuel] (l1 : List (List Int)) (n2 : Int) (i3 : Int) : Option ((Int) ⊕ (Bool)) :=
  (bif (ltZ i3 (l1.length : Int)) then
    some (leZ i3 n2)
  else
    some false).bind fun x =>
  ladinglaw26_few.j1 l1 n2 i3 x
noncomputable def ladinglaw26_few [Fuel] (l1 : List (List Int)) (n2 : Int) : Option Bool :=
  loopF (fun x => ladinglaw26_few.b1 l1 n2 x) 0
/-- lading/ladingref26.set -/
noncomputable def ladingref26_set [Fuel] : Option (List Bool) :=
  (msNeed 4001 4001).bind fun _1 =>
  some (repT 4001 (false : Bool))
/-- lading/ladingref26.Lit -/
noncomputable def ladingref26_Lit [Fuel] (x1 : Int) : Option Bool :=
  bif (!eqZ x1 0) then
    (bif (leZ (-2000) x1) then
      some (leZ x1 2000)
    else
      some false)
  else
    some false
/-- lading/ladingref26.open -/
noncomputable def ladingref26_open.j1 [Fuel] (left3 : Int) (i4 : Int) (v5 : Int) (v9 : Bool) : Option ((Int × Int) ⊕ (Int × Bool)) :=
  bif v9 then
    ((z64 (i4 + 1)).bind fun v10 =>
    some (.inl (left3, v10)))
  else
    (bif (!eqZ left3 0) then
      some (.inr (0, false))
    else
      ((z64 (i4 + 1)).bind fun v11 =>
      some (.inl (v5, v11))))
noncomputable def ladingref26_open.b1 [Fuel] (in1 : List Bool) (lits2 : List Int) (left3 : Int) (i4 : Int) : Option ((Int × Int) ⊕ (Int × Bool)) :=
  bif (ltZ i4 (lits2.length : Int)) then
    ((idx lits2 i4).bind fun v5 =>
    ((ladingref26_Lit v5).bind fun l6 =>
    bif (!l6) then
      some true
    else
      ((z64 ((2000 : Int) - v5)).bind fun v7 =>
      (idx in1 v7).bind fun v8 =>
      bif v8 then
        some true
      else
        some (eqZ v5 left3))).bind fun x =>
    ladingref26_open.j1 left3 i4 v5 x)
  else
    some (.inr (left3, true))
noncomputable def ladingref26_open [Fuel] (in1 : List Bool) (lits2 : List Int) : Option (Int × Bool) :=
  loopF (fun x => ladingref26_open.b1 in1 lits2 x.1 x.2) (0, 0)
/-- lading/ladingref26.closure -/
noncomputable def ladingref26_closure.b1 [Fuel] (p2 : List Int) (v4 : Int) (v5 : List Bool) : Option ((Int × List Bool) ⊕ (List Bool)) :=
  bif (ltZ v4 (p2.length : Int)) then
    ((idx p2 v4).bind fun v6 =>
    (ladingref26_Lit v6).bind fun l7 =>
    bif l7 then
      ((idx p2 v4).bind fun v8 =>
      (z64 ((2000 : Int) + v8)).bind fun v9 =>
      (idx v5 v9).bind fun _10 =>
      (idx v5 v9).bind fun v11 =>
      (z64 (v4 + 1)).bind fun v12 =>
      some (.inl (v12, (v5.set v9.toNat true))))
    else
      ((z64 (v4 + 1)).bind fun v13 =>
      some (.inl (v13, v5))))
  else
    some (.inr v5)
noncomputable def ladingref26_closure.b2 [Fuel] (l1 : List GClause) (v17 : Bool) (v18 : Int) (v19 : List Bool) : Option ((Bool × Int × List Bool) ⊕ ((Bool × List Bool) ⊕ ((List Bool) ⊕ ((List Bool) × Bool)))) :=
  bif (ltZ v18 (l1.length : Int)) then
    ((idx l1 v18).bind fun v20 =>
    (ladingref26_open v19 v20.1).bind fun o21 =>
    bif (!o21.2) then
      ((z64 (v18 + 1)).bind fun v22 =>
      some (.inl (v17, v22, v19)))
    else
      (bif (eqZ o21.1 0) then
        some (.inr (.inr (.inr (v19, false))))
      else
        ((z64 ((2000 : Int) + o21.1)).bind fun v23 =>
        (idx v19 v23).bind fun _24 =>
        (idx v19 v23).bind fun v25 =>
        bif (!v25) then
          ((z64 ((2000 : Int) + o21.1)).bind fun v26 =>
          (idx v19 v26).bind fun _27 =>
          (idx v19 v26).bind fun v28 =>
          (z64 (v18 + 1)).bind fun v29 =>
          some (.inl (true, v29, (v19.set v26.toNat true))))
        else
          ((z64 (v18 + 1)).bind fun v30 =>
          some (.inl (v17, v30, v19))))))
  else
    some (.inr (.inl (v17, v19)))
noncomputable def ladingref26_closure.b3 [Fuel] (l1 : List GClause) (v15 : Bool) (v16 : List Bool) : Option ((Bool × List Bool) ⊕ ((List Bool) ⊕ ((List Bool) × Bool))) :=
  bif v15 then
    (loopF (fun x => ladingref26_closure.b2 l1 x.1 x.2.1 x.2.2) (false, 0, v16))
  else
    some (.inr (.inl v16))
noncomputable def ladingref26_closure.j1 [Fuel] (v31 : List Bool) (v32 : Int) (v39 : Bool) : Option ((Int) ⊕ ((List Bool) × Bool)) :=
  bif v39 then
    some (.inr (v31, false))
  else
    ((z64 (v32 + 1)).bind fun v40 =>
    some (.inl v40))
noncomputable def ladingref26_closure.b4 [Fuel] (v31 : List Bool) (v32 : Int) : Option ((Int) ⊕ ((List Bool) × Bool)) :=
  bif (leZ v32 2000) then
    (((z64 ((2000 : Int) + v32)).bind fun v33 =>
    (idx v31 v33).bind fun _34 =>
    (idx v31 v33).bind fun v35 =>
    bif v35 then
      ((z64 ((2000 : Int) - v32)).bind fun v36 =>
      (idx v31 v36).bind fun _37 =>
      (idx v31 v36).bind fun v38 =>
      some v38)
    else
      some false).bind fun x =>
    ladingref26_closure.j1 v31 v32 x)
  else
    some (.inr (v31, true))
noncomputable def ladingref26_closure.j2 [Fuel] (v31 : List Bool) : Option ((List Bool) × Bool) :=
  loopF (fun x => ladingref26_closure.b4 v31 x) 1
noncomputable def ladingref26_closure.j3 [Fuel] (l1 : List GClause) (v14 : List Bool) : Option ((List Bool) × Bool) :=
  (loopF (fun x => ladingref26_closure.b3 l1 x.1 x.2) (true, v14)).bind fun x => match x with
  | .inl x =>
    ladingref26_closure.j2 x
  | .inr r => some r
noncomputable def ladingref26_closure [Fuel] (l1 : List GClause) (p2 : List Int) : Option ((List Bool) × Bool) :=
  (ladingref26_set).bind fun s3 =>
  (loopF (fun x => ladingref26_closure.b1 p2 x.1 x.2) (0, s3)).bind fun x =>
  ladingref26_closure.j3 l1 x
/-- lading/ladingref26.Propagate -/
noncomputable def ladingref26_Propagate.b1 [Fuel] (c3 : (List Bool) × Bool) (x4 : Int) (out5 : List Int) : Option ((Int × List Int) ⊕ ((List Int) × Bool)) :=
  bif (leZ x4 2000) then
    ((z64 ((2000 : Int) + x4)).bind fun v6 =>
    (idx c3.1 v6).bind fun v7 =>
    bif v7 then
      ((app? out5 ([x4] : List Int)).bind fun l8 =>
      (z64 (x4 + 1)).bind fun v9 =>
      some (.inl (v9, l8)))
    else
      ((z64 (x4 + 1)).bind fun v10 =>
      some (.inl (v10, out5))))
  else
    some (.inr (out5, true))
noncomputable def ladingref26_Propagate [Fuel] (l1 : List GClause) (lits2 : List Int) : Option ((List Int) × Bool) :=
  (ladingref26_closure l1 lits2).bind fun c3 =>
  bif (!c3.2) then
    some ([], false)
  else
    (loopF (fun x => ladingref26_Propagate.b1 c3 x.1 x.2) ((-2000), []))
/-- lading/ladingref26.Follows -/
noncomputable def ladingref26_Follows.b1 [Fuel] (lits2 : List Int) (i3 : Int) (not4 : List Int) : Option ((Int × List Int) ⊕ (List Int)) :=
  bif (ltZ i3 (lits2.length : Int)) then
    ((idx lits2 i3).bind fun v5 =>
    (ladingref26_Lit v5).bind fun l6 =>
    bif l6 then
      ((idx lits2 i3).bind fun v7 =>
      (z64 (-v7)).bind fun v8 =>
      (app? not4 ([v8] : List Int)).bind fun l9 =>
      (z64 (i3 + 1)).bind fun v10 =>
      some (.inl (v10, l9)))
    else
      ((z64 (i3 + 1)).bind fun v11 =>
      some (.inl (v11, not4))))
  else
    some (.inr not4)
noncomputable def ladingref26_Follows.j1 [Fuel] (l1 : List GClause) (not12 : List Int) : Option Bool :=
  (ladingref26_closure l1 not12).bind fun c13 =>
  some (!c13.2)
noncomputable def ladingref26_Follows [Fuel] (l1 : List GClause) (lits2 : List Int) : Option Bool :=
  (loopF (fun x => ladingref26_Follows.b1 lits2 x.1 x.2) (0, [])).bind fun x =>
  ladingref26_Follows.j1 l1 x
/-- lading/ladingref26.Right -/
noncomputable def ladingref26_Right.j1 [Fuel] (k5 : Int) (v10 : Bool) : Option ((Int) ⊕ ((Int) ⊕ (Bool))) :=
  bif v10 then
    some (.inr (.inr false))
  else
    ((z64 (k5 + 1)).bind fun v11 =>
    some (.inl v11))
noncomputable def ladingref26_Right.b1 [Fuel] (l1 : List GClause) (n2 : Int) (i4 : Int) (k5 : Int) : Option ((Int) ⊕ ((Int) ⊕ (Bool))) :=
  (idx l1 i4).bind fun v6 =>
  bif (ltZ k5 (v6.1.length : Int)) then
    ((idx l1 i4).bind fun v7 =>
    (idx v7.1 k5).bind fun v8 =>
    (bif (eqZ v8 0) then
      some true
    else
      ((z64 (-n2)).bind fun v9 =>
      bif (ltZ v8 v9) then
        some true
      else
        some (ltZ n2 v8))).bind fun x =>
    ladingref26_Right.j1 k5 x)
  else
    (Option.map Sum.inr ((z64 (i4 + 1)).bind fun v12 =>
    some (.inl v12)))
noncomputable def ladingref26_Right.b2 [Fuel] (l1 : List GClause) (n2 : Int) (i4 : Int) : Option ((Int) ⊕ (Bool)) :=
  bif (ltZ i4 (l1.length : Int)) then
    (loopF (fun x => ladingref26_Right.b1 l1 n2 i4 x) 0)
  else
    some (.inr true)
noncomputable def ladingref26_Right.j2 [Fuel] (l1 : List GClause) (n2 : Int) (v3 : Bool) : Option Bool :=
  bif v3 then
    some false
  else
    (loopF (fun x => ladingref26_Right.b2 l1 n2 x) 0)
noncomputable def ladingref26_Right [Fuel] (l1 : List GClause) (n2 : Int) : Option Bool :=
  (bif (ltZ n2 0) then
    some true
  else
    (bif (ltZ 2000 n2) then
      some true
    else
      some (ltZ 20000 (l1.length : Int)))).bind fun x =>
  ladingref26_Right.j2 l1 n2 x
/-- lading/ladingref26.True -/
noncomputable def ladingref26_True [Fuel] (model1 : List Bool) (x2 : Int) : Option Bool :=
  (ladingref26_Lit x2).bind fun l3 =>
  bif (!l3) then
    some false
  else
    ((z64 (-x2)).bind fun v4 =>
    (z64 ((max x2 v4) - 1)).bind fun v5 =>
    bif (ltZ v5 (model1.length : Int)) then
      ((idx model1 v5).bind fun v6 =>
      some (v6 == (ltZ 0 x2)))
    else
      some false)
/-- lading/ladingref26.Holds -/
noncomputable def ladingref26_Holds.b1 [Fuel] (l1 : List GClause) (model2 : List Bool) (i3 : Int) (ok4 : Bool) (k5 : Int) : Option ((Bool × Int) ⊕ (Bool)) :=
  (idx l1 i3).bind fun v6 =>
  bif (ltZ k5 (v6.1.length : Int)) then
    (bif ok4 then
      ((z64 (k5 + 1)).bind fun v7 =>
      some (.inl (true, v7)))
    else
      ((idx l1 i3).bind fun v8 =>
      (idx v8.1 k5).bind fun v9 =>
      (ladingref26_True model2 v9).bind fun t10 =>
      (z64 (k5 + 1)).bind fun v11 =>
      some (.inl (t10, v11))))
  else
    some (.inr ok4)
noncomputable def ladingref26_Holds.j1 [Fuel] (i3 : Int) (ok12 : Bool) : Option ((Int) ⊕ (Bool)) :=
  bif (!ok12) then
    some (.inr false)
  else
    ((z64 (i3 + 1)).bind fun v13 =>
    some (.inl v13))
noncomputable def ladingref26_Holds.b2 [Fuel] (l1 : List GClause) (model2 : List Bool) (i3 : Int) : Option ((Int) ⊕ (Bool)) :=
  bif (ltZ i3 (l1.length : Int)) then
    ((loopF (fun x => ladingref26_Holds.b1 l1 model2 i3 x.1 x.2) (false, 0)).bind fun x =>
    ladingref26_Holds.j1 i3 x)
  else
    some (.inr true)
noncomputable def ladingref26_Holds [Fuel] (l1 : List GClause) (model2 : List Bool) : Option Bool :=
  loopF (fun x => ladingref26_Holds.b2 l1 model2 x) 0
/-- lading/ladingref26.Proof -/
noncomputable def ladingref26_Proof.b1 [Fuel] (learnt2 : List (List Int)) (i4 : Int) (all5 : List GClause) : Option ((Int × List GClause) ⊕ ((Unit) ⊕ (Int))) :=
  bif (ltZ i4 (learnt2.length : Int)) then
    ((idx learnt2 i4).bind fun v6 =>
    (ladingref26_Follows all5 v6).bind fun f7 =>
    bif (!f7) then
      some (.inr (.inr 19))
    else
      ((idx learnt2 i4).bind fun v8 =>
      (app? all5 ([(v8, 0, 0, 0)] : List GClause)).bind fun l9 =>
      (z64 (i4 + 1)).bind fun v10 =>
      some (.inl (v10, l9))))
  else
    some (.inr (.inl ()))
noncomputable def ladingref26_Proof.b2 [Fuel] (v12 : List Int) (i13 : Int) : Option ((Int) ⊕ (Int)) :=
  bif (ltZ i13 (v12.length : Int)) then
    ((idx v12 i13).bind fun v14 =>
    (ladingref26_Lit v14).bind fun l15 =>
    bif l15 then
      some (.inr 19)
    else
      ((z64 (i13 + 1)).bind fun v16 =>
      some (.inl v16)))
  else
    some (.inr 0)
noncomputable def ladingref26_Proof.j1 [Fuel] (learnt2 : List (List Int)) : Option Int :=
  (z64 ((learnt2.length : Int) - 1)).bind fun v11 =>
  (idx learnt2 v11).bind fun v12 =>
  loopF (fun x => ladingref26_Proof.b2 v12 x) 0
noncomputable def ladingref26_Proof [Fuel] (l1 : List GClause) (learnt2 : List (List Int)) : Option Int :=
  bif (ltZ 4000 (learnt2.length : Int)) then
    some 6
  else
    (bif (eqZ (learnt2.length : Int) 0) then
      some 19
    else
      ((app? ([] : List GClause) l1).bind fun l3 =>
      (loopF (fun x => ladingref26_Proof.b1 learnt2 x.1 x.2) (0, l3)).bind fun x => match x with
      | .inl x =>
        ladingref26_Proof.j1 learnt2
      | .inr r => some r))
/-- lading/ladinglaw26.ClauseTells -/
noncomputable def ladinglaw26_ClauseTells.j1 [Fuel] (l1 : List GClause) (p3 : List (List Int)) (p4 : List Bool) (s6 : Bool) (v17 : Bool) : Option Bool :=
  bif s6 then
    (bif v17 then
      ((clause_Holds l1 p4).bind fun h18 =>
      (ladingref26_Holds l1 p4).bind fun h19 =>
      bif (h18 == h19) then
        ((clause_Proof l1 p3).bind fun p20 =>
        (ladingref26_Proof l1 p3).bind fun p21 =>
        some (eqZ p20 p21))
      else
        some false)
    else
      some false)
  else
    some false
noncomputable def ladinglaw26_ClauseTells.j2 [Fuel] (l1 : List GClause) (p2 : List Int) (p3 : List (List Int)) (p4 : List Bool) (p5 : Int) (s6 : Bool) (v9 : Bool) : Option Bool :=
  bif v9 then
    some s6
  else
    ((clause_Propagate l1 p2).bind fun p10 =>
    (ladingref26_Propagate l1 p2).bind fun p11 =>
    (bif (p10.2 == p11.2) then
      ((ladingref26_Same p10.1 p11.1).bind fun s12 =>
      bif s12 then
        ((clause_Follows l1 p2).bind fun f13 =>
        (ladingref26_Follows l1 p2).bind fun f14 =>
        bif (f13 == f14) then
          ((clause_Right l1 p5).bind fun r15 =>
          (ladingref26_Right l1 p5).bind fun r16 =>
          some (r15 == r16))
        else
          some false)
      else
        some false)
    else
      some false).bind fun x =>
    ladinglaw26_ClauseTells.j1 l1 p3 p4 s6 x)
noncomputable def ladinglaw26_ClauseTells [Fuel] (l1 : List GClause) (p2 : List Int) (p3 : List (List Int)) (p4 : List Bool) (p5 : Int) : Option Bool :=
  (ladinglaw26_small).bind fun s6 =>
  ((ladinglaw26_light l1 60).bind fun l7 =>
  bif (!l7) then
    some true
  else
    (bif (ltZ 60 (p2.length : Int)) then
      some true
    else
      ((ladinglaw26_few p3 20).bind fun f8 =>
      bif (!f8) then
        some true
      else
        some (ltZ 60 (p4.length : Int))))).bind fun x =>
  ladinglaw26_ClauseTells.j2 l1 p2 p3 p4 p5 s6 x
/-- lading/ladinglaw26.model -/
noncomputable def ladinglaw26_model.b1 [Fuel] (n1 : Int) (bits2 : Int) (i4 : Int) (out5 : List Bool) : Option ((Int × List Bool) ⊕ (List Bool)) :=
  bif (ltZ i4 n1) then
    ((shrZ .i64 bits2 (IntKind.u64.wrap i4)).bind fun v6 =>
    (idx out5 i4).bind fun _7 =>
    (idx out5 i4).bind fun v8 =>
    (z64 (i4 + 1)).bind fun v9 =>
    some (.inl (v9, (out5.set i4.toNat (eqZ (andI .i64 v6 1) 1)))))
  else
    some (.inr out5)
noncomputable def ladinglaw26_model [Fuel] (n1 : Int) (bits2 : Int) : Option (List Bool) :=
  (msNeed n1 n1).bind fun _3 =>
  loopF (fun x => ladinglaw26_model.b1 n1 bits2 x.1 x.2) (0, (repT n1 (false : Bool)))
/-- lading/ladinglaw26.satisfied -/
noncomputable def ladinglaw26_satisfied.b1 [Fuel] (m1 : List Bool) (lits2 : List Int) (i3 : Int) : Option ((Int) ⊕ (Bool)) :=
  bif (ltZ i3 (lits2.length : Int)) then
    ((idx lits2 i3).bind fun v4 =>
    (ladingref26_True m1 v4).bind fun t5 =>
    bif t5 then
      some (.inr true)
    else
      ((z64 (i3 + 1)).bind fun v6 =>
      some (.inl v6)))
  else
    some (.inr false)
noncomputable def ladinglaw26_satisfied [Fuel] (m1 : List Bool) (lits2 : List Int) : Option Bool :=
  loopF (fun x => ladinglaw26_satisfied.b1 m1 lits2 x) 0
/-- lading/ladinglaw26.ClauseSound -/
noncomputable def ladinglaw26_ClauseSound.b1 [Fuel] (p2 : List (List Int)) (v9 : Int) (v10 : List GClause) : Option ((Int × List GClause) ⊕ (List GClause)) :=
  bif (ltZ v9 (p2.length : Int)) then
    ((idx p2 v9).bind fun v11 =>
    (app? v10 ([(v11, 0, 0, 0)] : List GClause)).bind fun l12 =>
    (z64 (v9 + 1)).bind fun v13 =>
    some (.inl (v13, l12)))
  else
    some (.inr v10)
noncomputable def ladinglaw26_ClauseSound.j1 [Fuel] (v22 : Int) (v27 : Bool) : Option ((Int) ⊕ ((Int) ⊕ (Bool))) :=
  bif v27 then
    some (.inr (.inr false))
  else
    ((z64 (v22 + 1)).bind fun v28 =>
    some (.inl v28))
noncomputable def ladinglaw26_ClauseSound.b2 [Fuel] (l1 : List GClause) (p2 : List (List Int)) (v17 : Int) (m19 : List Bool) (v22 : Int) : Option ((Int) ⊕ ((Int) ⊕ (Bool))) :=
  bif (ltZ v22 (p2.length : Int)) then
    (((idx p2 v22).bind fun v23 =>
    (clause_Follows l1 v23).bind fun f24 =>
    bif f24 then
      ((idx p2 v22).bind fun v25 =>
      (ladinglaw26_satisfied m19 v25).bind fun s26 =>
      some (!s26))
    else
      some false).bind fun x =>
    ladinglaw26_ClauseSound.j1 v22 x)
  else
    (Option.map Sum.inr ((z64 (v17 + 1)).bind fun v29 =>
    some (.inl v29)))
noncomputable def ladinglaw26_ClauseSound.b3 [Fuel] (l1 : List GClause) (p2 : List (List Int)) (p3 : Int) (s4 : Bool) (p16 : Int) (v17 : Int) : Option ((Int) ⊕ (Bool)) :=
  (shlZ .i64 1 (IntKind.u64.wrap p3)).bind fun v18 =>
  bif (ltZ v17 v18) then
    ((ladinglaw26_model p3 v17).bind fun m19 =>
    (clause_Holds l1 m19).bind fun h20 =>
    bif (!h20) then
      ((z64 (v17 + 1)).bind fun v21 =>
      some (.inl v21))
    else
      (bif (eqZ p16 0) then
        some (.inr false)
      else
        (loopF (fun x => ladinglaw26_ClauseSound.b2 l1 p2 v17 m19 x) 0)))
  else
    (Option.map Sum.inr (bif s4 then
      (bif (eqZ p16 0) then
        some true
      else
        some (eqZ p16 19))
    else
      some false))
noncomputable def ladinglaw26_ClauseSound.j2 [Fuel] (l1 : List GClause) (p2 : List (List Int)) (p3 : Int) (s4 : Bool) (v14 : List GClause) : Option Bool :=
  (clause_Right v14 p3).bind fun r15 =>
  bif (!r15) then
    some s4
  else
    ((clause_Proof l1 p2).bind fun p16 =>
    loopF (fun x => ladinglaw26_ClauseSound.b3 l1 p2 p3 s4 p16 x) 0)
noncomputable def ladinglaw26_ClauseSound.j3 [Fuel] (l1 : List GClause) (p2 : List (List Int)) (p3 : Int) (s4 : Bool) (v8 : Bool) : Option Bool :=
  bif v8 then
    some s4
  else
    ((loopF (fun x => ladinglaw26_ClauseSound.b1 p2 x.1 x.2) (0, [])).bind fun x =>
    ladinglaw26_ClauseSound.j2 l1 p2 p3 s4 x)
noncomputable def ladinglaw26_ClauseSound [Fuel] (l1 : List GClause) (p2 : List (List Int)) (p3 : Int) : Option Bool :=
  (ladinglaw26_small).bind fun s4 =>
  (bif (ltZ p3 0) then
    some true
  else
    (bif (ltZ 8 p3) then
      some true
    else
      ((ladinglaw26_light l1 40).bind fun l5 =>
      bif (!l5) then
        some true
      else
        ((ladinglaw26_few p2 16).bind fun f6 =>
        bif (!f6) then
          some true
        else
          ((clause_Right l1 p3).bind fun r7 =>
          some (!r7)))))).bind fun x =>
  ladinglaw26_ClauseSound.j3 l1 p2 p3 s4 x
/-- lading/ladinglaw26.has -/
noncomputable def ladinglaw26_has.b1 [Fuel] (l1 : List Int) (n2 : Int) (i3 : Int) : Option ((Int) ⊕ (Bool)) :=
  bif (ltZ i3 (l1.length : Int)) then
    ((idx l1 i3).bind fun v4 =>
    bif (eqZ v4 n2) then
      some (.inr true)
    else
      ((z64 (i3 + 1)).bind fun v5 =>
      some (.inl v5)))
  else
    some (.inr false)
noncomputable def ladinglaw26_has [Fuel] (l1 : List Int) (n2 : Int) : Option Bool :=
  loopF (fun x => ladinglaw26_has.b1 l1 n2 x) 0
/-- lading/ladinglaw26.ClausePropagates -/
noncomputable def ladinglaw26_ClausePropagates.j1 [Fuel] (v10 : Int) (v13 : Bool) : Option ((Int) ⊕ ((Unit) ⊕ (Bool))) :=
  bif v13 then
    some (.inr (.inr false))
  else
    ((z64 (v10 + 1)).bind fun v14 =>
    some (.inl v14))
noncomputable def ladinglaw26_ClausePropagates.b1 [Fuel] (p2 : List Int) (p9 : (List Int) × Bool) (v10 : Int) : Option ((Int) ⊕ ((Unit) ⊕ (Bool))) :=
  bif (ltZ v10 (p2.length : Int)) then
    ((bif p9.2 then
      ((idx p2 v10).bind fun v11 =>
      (ladinglaw26_has p9.1 v11).bind fun h12 =>
      some (!h12))
    else
      some false).bind fun x =>
    ladinglaw26_ClausePropagates.j1 v10 x)
  else
    some (.inr (.inl ()))
noncomputable def ladinglaw26_ClausePropagates.b2 [Fuel] (p9 : (List Int) × Bool) (v15 : Int) : Option ((Int) ⊕ ((Unit) ⊕ (Bool))) :=
  bif (ltZ v15 (p9.1.length : Int)) then
    ((idx p9.1 v15).bind fun v16 =>
    (z64 (v15 - 1)).bind fun v17 =>
    (idx p9.1 v17).bind fun v18 =>
    bif (leZ v16 v18) then
      some (.inr (.inr false))
    else
      ((z64 (v15 + 1)).bind fun v19 =>
      some (.inl v19)))
  else
    some (.inr (.inl ()))
noncomputable def ladinglaw26_ClausePropagates.b3 [Fuel] (p2 : List Int) (m25 : List Bool) (v27 : Bool) (v28 : Int) : Option ((Bool × Int) ⊕ (Bool)) :=
  bif (ltZ v28 (p2.length : Int)) then
    (bif v27 then
      ((idx p2 v28).bind fun v29 =>
      (ladingref26_True m25 v29).bind fun t30 =>
      (z64 (v28 + 1)).bind fun v31 =>
      some (.inl (t30, v31)))
    else
      ((z64 (v28 + 1)).bind fun v32 =>
      some (.inl (false, v32))))
  else
    some (.inr v27)
noncomputable def ladinglaw26_ClausePropagates.j2 [Fuel] (p9 : (List Int) × Bool) (v23 : Int) (m25 : List Bool) (v35 : Int) (v36 : Bool) : Option ((Int) ⊕ ((Int) ⊕ ((Unit) ⊕ (Bool)))) :=
  bif v36 then
    ((idx p9.1 v35).bind fun v37 =>
    (ladingref26_True m25 v37).bind fun t38 =>
    bif (!t38) then
      some (.inr (.inr (.inr false)))
    else
      ((z64 (v35 + 1)).bind fun v39 =>
      some (.inl v39)))
  else
    (Option.map Sum.inr ((z64 (v23 + 1)).bind fun v40 =>
    some (.inl v40)))
noncomputable def ladinglaw26_ClausePropagates.b4 [Fuel] (p9 : (List Int) × Bool) (v23 : Int) (m25 : List Bool) (v33 : Bool) (v35 : Int) : Option ((Int) ⊕ ((Int) ⊕ ((Unit) ⊕ (Bool)))) :=
  (bif v33 then
    some (ltZ v35 (p9.1.length : Int))
  else
    some false).bind fun x =>
  ladinglaw26_ClausePropagates.j2 p9 v23 m25 v35 x
noncomputable def ladinglaw26_ClausePropagates.j3 [Fuel] (p9 : (List Int) × Bool) (v23 : Int) (m25 : List Bool) (v33 : Bool) (v34 : Bool) : Option ((Int) ⊕ ((Unit) ⊕ (Bool))) :=
  bif v34 then
    some (.inr (.inr false))
  else
    (loopF (fun x => ladinglaw26_ClausePropagates.b4 p9 v23 m25 v33 x) 0)
noncomputable def ladinglaw26_ClausePropagates.j4 [Fuel] (p9 : (List Int) × Bool) (v23 : Int) (m25 : List Bool) (v33 : Bool) : Option ((Int) ⊕ ((Unit) ⊕ (Bool))) :=
  (bif v33 then
    some (!p9.2)
  else
    some false).bind fun x =>
  ladinglaw26_ClausePropagates.j3 p9 v23 m25 v33 x
noncomputable def ladinglaw26_ClausePropagates.b5 [Fuel] (l1 : List GClause) (p2 : List Int) (p3 : Int) (p9 : (List Int) × Bool) (v23 : Int) : Option ((Int) ⊕ ((Unit) ⊕ (Bool))) :=
  (shlZ .i64 1 (IntKind.u64.wrap p3)).bind fun v24 =>
  bif (ltZ v23 v24) then
    ((ladinglaw26_model p3 v23).bind fun m25 =>
    (clause_Holds l1 m25).bind fun h26 =>
    (loopF (fun x => ladinglaw26_ClausePropagates.b3 p2 m25 x.1 x.2) (h26, 0)).bind fun x =>
    ladinglaw26_ClausePropagates.j4 p9 v23 m25 x)
  else
    some (.inr (.inl ()))
noncomputable def ladinglaw26_ClausePropagates.j5 [Fuel] (s4 : Bool) (p9 : (List Int) × Bool) (p42 : (List Int) × Bool) (v43 : Int) (v44 : Bool) : Option ((Int) ⊕ (Bool)) :=
  bif v44 then
    ((idx p42.1 v43).bind fun v45 =>
    (ladinglaw26_has p9.1 v45).bind fun h46 =>
    bif (!h46) then
      some (.inr false)
    else
      ((z64 (v43 + 1)).bind fun v47 =>
      some (.inl v47)))
  else
    (Option.map Sum.inr (bif s4 then
      (bif p42.2 then
        some true
      else
        some (!p9.2))
    else
      some false))
noncomputable def ladinglaw26_ClausePropagates.b6 [Fuel] (s4 : Bool) (p9 : (List Int) × Bool) (p42 : (List Int) × Bool) (v43 : Int) : Option ((Int) ⊕ (Bool)) :=
  (bif p9.2 then
    some (ltZ v43 (p42.1.length : Int))
  else
    some false).bind fun x =>
  ladinglaw26_ClausePropagates.j5 s4 p9 p42 v43 x
noncomputable def ladinglaw26_ClausePropagates.j6 [Fuel] (l1 : List GClause) (p2 : List Int) (s4 : Bool) (p9 : (List Int) × Bool) : Option Bool :=
  bif (eqZ (p2.length : Int) 0) then
    some s4
  else
    ((cut p2 1 (p2.length : Int)).bind fun l41 =>
    (clause_Propagate l1 l41).bind fun p42 =>
    loopF (fun x => ladinglaw26_ClausePropagates.b6 s4 p9 p42 x) 0)
noncomputable def ladinglaw26_ClausePropagates.j7 [Fuel] (l1 : List GClause) (p2 : List Int) (p3 : Int) (s4 : Bool) (p9 : (List Int) × Bool) (v22 : Bool) : Option Bool :=
  bif v22 then
    some false
  else
    ((loopF (fun x => ladinglaw26_ClausePropagates.b5 l1 p2 p3 p9 x) 0).bind fun x => match x with
    | .inl x =>
      ladinglaw26_ClausePropagates.j6 l1 p2 s4 p9
    | .inr r => some r)
noncomputable def ladinglaw26_ClausePropagates.j8 [Fuel] (l1 : List GClause) (p2 : List Int) (p3 : Int) (s4 : Bool) (p9 : (List Int) × Bool) : Option Bool :=
  (clause_Propagate l1 p9.1).bind fun p20 =>
  (bif p9.2 then
    (bif (!p20.2) then
      some true
    else
      ((ladingref26_Same p20.1 p9.1).bind fun s21 =>
      bif (!s21) then
        some true
      else
        (bif (!p9.2) then
          some (ltZ 0 (p9.1.length : Int))
        else
          some false)))
  else
    (bif (!p9.2) then
      some (ltZ 0 (p9.1.length : Int))
    else
      some false)).bind fun x =>
  ladinglaw26_ClausePropagates.j7 l1 p2 p3 s4 p9 x
noncomputable def ladinglaw26_ClausePropagates.j9 [Fuel] (l1 : List GClause) (p2 : List Int) (p3 : Int) (s4 : Bool) (p9 : (List Int) × Bool) : Option Bool :=
  (loopF (fun x => ladinglaw26_ClausePropagates.b2 p9 x) 1).bind fun x => match x with
  | .inl x =>
    ladinglaw26_ClausePropagates.j8 l1 p2 p3 s4 p9
  | .inr r => some r
noncomputable def ladinglaw26_ClausePropagates.j10 [Fuel] (l1 : List GClause) (p2 : List Int) (p3 : Int) (s4 : Bool) (v8 : Bool) : Option Bool :=
  bif v8 then
    some s4
  else
    ((clause_Propagate l1 p2).bind fun p9 =>
    (loopF (fun x => ladinglaw26_ClausePropagates.b1 p2 p9 x) 0).bind fun x => match x with
    | .inl x =>
      ladinglaw26_ClausePropagates.j9 l1 p2 p3 s4 p9
    | .inr r => some r)
noncomputable def ladinglaw26_ClausePropagates [Fuel] (l1 : List GClause) (p2 : List Int) (p3 : Int) : Option Bool :=
  (ladinglaw26_small).bind fun s4 =>
  (bif (ltZ p3 0) then
    some true
  else
    (bif (ltZ 8 p3) then
      some true
    else
      ((ladinglaw26_light l1 40).bind fun l5 =>
      bif (!l5) then
        some true
      else
        ((clause_Right l1 p3).bind fun r6 =>
        bif (!r6) then
          some true
        else
          (bif (ltZ 16 (p2.length : Int)) then
            some true
          else
            ((clause_Right ([(p2, 0, 0, 0)] : List GClause) p3).bind fun r7 =>
            some (!r7))))))).bind fun x =>
  ladinglaw26_ClausePropagates.j10 l1 p2 p3 s4 x
/-- lading/ladinglaw26.ClauseTurns -/
noncomputable def ladinglaw26_ClauseTurns.b1 [Fuel] (v9 : Int) (v10 : List GClause) (v13 : GClause) (v15 : Int) (v16 : List Int) : Option ((Int × List Int) ⊕ ((Int × List GClause) ⊕ (List GClause))) :=
  bif (leZ 0 v15) then
    ((idx v13.1 v15).bind fun v17 =>
    (app? v16 ([v17] : List Int)).bind fun l18 =>
    (z64 (v15 - 1)).bind fun v19 =>
    some (.inl (v19, l18)))
  else
    (Option.map Sum.inr ((app? v10 ([(v16, v13.2)] : List GClause)).bind fun l20 =>
    (z64 (v9 + 1)).bind fun v21 =>
    some (.inl (v21, l20))))
noncomputable def ladinglaw26_ClauseTurns.b2 [Fuel] (l1 : List GClause) (p4 : Int) (v9 : Int) (v10 : List GClause) : Option ((Int × List GClause) ⊕ (List GClause)) :=
  bif (ltZ v9 (l1.length : Int)) then
    ((z64 (v9 + p4)).bind fun v11 =>
    (remZ .i64 v11 (l1.length : Int)).bind fun v12 =>
    (idx l1 v12).bind fun v13 =>
    (z64 ((v13.1.length : Int) - 1)).bind fun v14 =>
    loopF (fun x => ladinglaw26_ClauseTurns.b1 v9 v10 v13 x.1 x.2) (v14, []))
  else
    some (.inr v10)
noncomputable def ladinglaw26_ClauseTurns.j1 [Fuel] (l1 : List GClause) (p2 : List Int) (p3 : List (List Int)) (s5 : Bool) (p25 : Int) (v30 : Bool) : Option Bool :=
  bif v30 then
    some false
  else
    ((clause_Follows l1 p2).bind fun f31 =>
    bif (!f31) then
      some s5
    else
      ((app? ([p2] : List (List Int)) p3).bind fun l32 =>
      (clause_Proof l1 l32).bind fun p33 =>
      (app? ([] : List GClause) l1).bind fun l34 =>
      (app? l34 ([(p2, 0, 0, 0)] : List GClause)).bind fun l35 =>
      (clause_Proof l35 p3).bind fun p36 =>
      bif s5 then
        (bif (!eqZ p25 0) then
          (bif (eqZ (p3.length : Int) 0) then
            some true
          else
            some (eqZ p33 p36))
        else
          (bif (eqZ p33 0) then
            (bif (eqZ p36 0) then
              (bif (eqZ (p3.length : Int) 0) then
                some true
              else
                some (eqZ p33 p36))
            else
              some false)
          else
            some false))
      else
        some false))
noncomputable def ladinglaw26_ClauseTurns.j2 [Fuel] (l1 : List GClause) (p2 : List Int) (p3 : List (List Int)) (s5 : Bool) (v22 : List GClause) : Option Bool :=
  (clause_Propagate l1 p2).bind fun p23 =>
  (clause_Propagate v22 p2).bind fun p24 =>
  (clause_Proof l1 p3).bind fun p25 =>
  (bif (!(p23.2 == p24.2)) then
    some true
  else
    ((ladingref26_Same p23.1 p24.1).bind fun s26 =>
    bif (!s26) then
      some true
    else
      ((clause_Follows l1 p2).bind fun f27 =>
      (clause_Follows v22 p2).bind fun f28 =>
      bif (!(f27 == f28)) then
        some true
      else
        ((clause_Proof v22 p3).bind fun p29 =>
        some (!eqZ p25 p29))))).bind fun x =>
  ladinglaw26_ClauseTurns.j1 l1 p2 p3 s5 p25 x
noncomputable def ladinglaw26_ClauseTurns.j3 [Fuel] (l1 : List GClause) (p2 : List Int) (p3 : List (List Int)) (p4 : Int) (s5 : Bool) (v8 : Bool) : Option Bool :=
  bif v8 then
    some s5
  else
    ((loopF (fun x => ladinglaw26_ClauseTurns.b2 l1 p4 x.1 x.2) (0, [])).bind fun x =>
    ladinglaw26_ClauseTurns.j2 l1 p2 p3 s5 x)
noncomputable def ladinglaw26_ClauseTurns [Fuel] (l1 : List GClause) (p2 : List Int) (p3 : List (List Int)) (p4 : Int) : Option Bool :=
  (ladinglaw26_small).bind fun s5 =>
  ((ladinglaw26_light l1 40).bind fun l6 =>
  bif (!l6) then
    some true
  else
    (bif (ltZ 30 (p2.length : Int)) then
      some true
    else
      ((ladinglaw26_few p3 10).bind fun f7 =>
      bif (!f7) then
        some true
      else
        (bif (ltZ p4 0) then
          some true
        else
          some (ltZ (l1.length : Int) p4))))).bind fun x =>
  ladinglaw26_ClauseTurns.j3 l1 p2 p3 p4 s5 x
/-- lading/ladinglaw26.ClauseEnds -/
noncomputable def ladinglaw26_ClauseEnds.b1 [Fuel] (p2 : List (List Int)) (v16 : Int) (v17 : Bool) (v18 : Int) : Option ((Bool × Int) ⊕ (Bool)) :=
  (z64 (v16 - 1)).bind fun v19 =>
  (idx p2 v19).bind fun v20 =>
  bif (ltZ v18 (v20.length : Int)) then
    (bif v17 then
      ((z64 (v16 - 1)).bind fun v21 =>
      (idx p2 v21).bind fun v22 =>
      (idx v22 v18).bind fun v23 =>
      (ladingref26_Lit v23).bind fun l24 =>
      (z64 (v18 + 1)).bind fun v25 =>
      some (.inl ((!l24), v25)))
    else
      ((z64 (v18 + 1)).bind fun v26 =>
      some (.inl (false, v26))))
  else
    some (.inr v17)
noncomputable def ladinglaw26_ClauseEnds.j1 [Fuel] (l1 : List GClause) (p2 : List (List Int)) (p3 : Int) (s4 : Bool) (v30 : Bool) : Option Bool :=
  bif v30 then
    some s4
  else
    ((cut p2 0 p3).bind fun l31 =>
    (app? ([] : List (List Int)) l31).bind fun l32 =>
    (idx p2 p3).bind fun v33 =>
    (app? l32 ([v33] : List (List Int))).bind fun l34 =>
    bif s4 then
      ((cut p2 p3 (p2.length : Int)).bind fun l35 =>
      (app? l34 l35).bind fun l36 =>
      (clause_Proof l1 l36).bind fun p37 =>
      some (eqZ p37 0))
    else
      some false)
noncomputable def ladinglaw26_ClauseEnds.j2 [Fuel] (l1 : List GClause) (p2 : List (List Int)) (p3 : Int) (s4 : Bool) (v16 : Int) (v27 : Bool) : Option Bool :=
  (cut p2 0 v16).bind fun l28 =>
  (clause_Proof l1 l28).bind fun p29 =>
  bif (!((eqZ p29 0) == v27)) then
    some false
  else
    ((bif (ltZ p3 0) then
      some true
    else
      some (ltZ v16 p3)).bind fun x =>
    ladinglaw26_ClauseEnds.j1 l1 p2 p3 s4 x)
noncomputable def ladinglaw26_ClauseEnds.j3 [Fuel] (l1 : List GClause) (p2 : List (List Int)) (p3 : Int) (s4 : Bool) (v15 : Bool) : Option Bool :=
  bif v15 then
    some s4
  else
    ((z64 ((p2.length : Int) - 1)).bind fun v16 =>
    (bif (ltZ 0 v16) then
      (loopF (fun x => ladinglaw26_ClauseEnds.b1 p2 v16 x.1 x.2) (true, 0))
    else
      some false).bind fun x =>
    ladinglaw26_ClauseEnds.j2 l1 p2 p3 s4 v16 x)
noncomputable def ladinglaw26_ClauseEnds.j4 [Fuel] (l1 : List GClause) (p2 : List (List Int)) (p3 : Int) (s4 : Bool) (v8 : Bool) : Option Bool :=
  bif v8 then
    (bif s4 then
      ((ladinglaw26_light l1 40).bind fun l9 =>
      bif (!l9) then
        some true
      else
        ((ladinglaw26_few p2 10).bind fun f10 =>
        some (!f10)))
    else
      some false)
  else
    ((app? ([] : List GClause) l1).bind fun l11 =>
    (app? l11 ([([], 0, 0, 0)] : List GClause)).bind fun l12 =>
    (clause_Proof l12 ([([] : List Int)] : List (List Int))).bind fun p13 =>
    bif (!eqZ p13 0) then
      some false
    else
      (((clause_Proof l1 p2).bind fun p14 =>
      bif (!eqZ p14 0) then
        some true
      else
        some (eqZ (p2.length : Int) 0)).bind fun x =>
      ladinglaw26_ClauseEnds.j3 l1 p2 p3 s4 x))
noncomputable def ladinglaw26_ClauseEnds [Fuel] (l1 : List GClause) (p2 : List (List Int)) (p3 : Int) : Option Bool :=
  (ladinglaw26_small).bind fun s4 =>
  ((ladinglaw26_light l1 40).bind fun l5 =>
  bif (!l5) then
    some true
  else
    ((ladinglaw26_few p2 10).bind fun f6 =>
    bif (!f6) then
      some true
    else
      ((clause_Proof l1 []).bind fun p7 =>
      some (!eqZ p7 19)))).bind fun x =>
  ladinglaw26_ClauseEnds.j4 l1 p2 p3 s4 x
end Go.Proofs.Ytbkdiclfhoelbaa
