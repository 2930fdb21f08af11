/-
  The functions as plain Lean.
-/
import Derived.Test.YtblcedjcialnhaaDoorE1
import Derived.Test.YtblcedjcialnhaaDoorProg
import Derived.KernelRfl
namespace Go.Proofs.YtblcedjcialnhaaDoor
open Go.Lad
set_option linter.unusedVariables false
/-- Kind, Text, N, Pos -/
abbrev GToken : Type := Int × Bs × Int × Int
/-- lading/lex.blank -/
noncomputable def lex_blank [Fuel] (c1 : Int) : Option Bool :=
  bif (eqZ c1 32) then
    some true
  else
    (bif (eqZ c1 9) then
      some true
    else
      some (eqZ c1 10))
/-- lading/lex.span -/
noncomputable def lex_span.j1 [Fuel] (n2 : Int) (v5 : Bool) : Option ((Int) ⊕ (Int)) :=
  bif v5 then
    ((z64 (n2 + 1)).bind fun v6 =>
    some (.inl v6))
  else
    some (.inr n2)
noncomputable def lex_span.b1 [Fuel] (s1 : Bs) (n2 : Int) : Option ((Int) ⊕ (Int)) :=
  (bif (ltZ n2 (s1.length : Int)) then
    ((bAt s1 n2).bind fun c3 =>
    (lex_blank c3).bind fun b4 =>
    some b4)
  else
    some false).bind fun x =>
  lex_span.j1 n2 x
noncomputable def lex_span [Fuel] (s1 : Bs) : Option Int :=
  loopF (fun x => lex_span.b1 s1 x) 0
/-- lading/lex.letter -/
noncomputable def lex_letter [Fuel] (c1 : Int) : Option Bool :=
  bif (leZ 97 c1) then
    some (leZ c1 122)
  else
    some false
/-- lading/lex.digit -/
noncomputable def lex_digit [Fuel] (c1 : Int) : Option Bool :=
  bif (leZ 48 c1) then
    some (leZ c1 57)
  else
    some false
/-- lading/lex.next$1 -/
noncomputable def lex_next_1 [Fuel] (c1 : Int) : Option Bool :=
  (lex_letter c1).bind fun l2 =>
  bif l2 then
    some true
  else
    ((lex_digit c1).bind fun d3 =>
    some d3)
/-- lading/lex.span -/
noncomputable def lex_span_v2.j1 [Fuel] (n2 : Int) (v5 : Bool) : Option ((Int) ⊕ (Int)) :=
  bif v5 then
    ((z64 (n2 + 1)).bind fun v6 =>
    some (.inl v6))
  else
    some (.inr n2)
noncomputable def lex_span_v2.b1 [Fuel] (s1 : Bs) (n2 : Int) : Option ((Int) ⊕ (Int)) :=
  (bif (ltZ n2 (s1.length : Int)) then
    ((bAt s1 n2).bind fun c3 =>
    (lex_next_1 c3).bind fun v'4 =>
    some v'4)
  else
    some false).bind fun x =>
  lex_span_v2.j1 n2 x
noncomputable def lex_span_v2 [Fuel] (s1 : Bs) : Option Int :=
  loopF (fun x => lex_span_v2.b1 s1 x) 0
/-- lading/lex.Word$1 -/
noncomputable def lex_Word_1 [Fuel] (c1 : Int) : Option Bool :=
  (lex_letter c1).bind fun l2 =>
  bif l2 then
    some true
  else
    ((lex_digit c1).bind fun d3 =>
    some d3)
/-- lading/lex.span -/
noncomputable def lex_span_v3.j1 [Fuel] (n2 : Int) (v5 : Bool) : Option ((Int) ⊕ (Int)) :=
  bif v5 then
    ((z64 (n2 + 1)).bind fun v6 =>
    some (.inl v6))
  else
    some (.inr n2)
noncomputable def lex_span_v3.b1 [Fuel] (s1 : Bs) (n2 : Int) : Option ((Int) ⊕ (Int)) :=
  (bif (ltZ n2 (s1.length : Int)) then
    ((bAt s1 n2).bind fun c3 =>
    (lex_Word_1 c3).bind fun v'4 =>
    some v'4)
  else
    some false).bind fun x =>
  lex_span_v3.j1 n2 x
noncomputable def lex_span_v3 [Fuel] (s1 : Bs) : Option Int :=
  loopF (fun x => lex_span_v3.b1 s1 x) 0
/-- lading/lex.Word -/
noncomputable def lex_Word.j1 [Fuel] (s1 : Bs) (v4 : Bool) : Option Bool :=
  bif v4 then
    some false
  else
    ((lex_span_v3 s1).bind fun v5 =>
    some (eqZ v5 (s1.length : Int)))
noncomputable def lex_Word [Fuel] (s1 : Bs) : Option Bool :=
  (bif (decide (s1 = ([] : Bs))) then
    some true
  else
    ((bAt s1 0).bind fun c2 =>
    (lex_letter c2).bind fun l3 =>
    bif (!l3) then
      some true
    else
      some (ltZ 20 (s1.length : Int)))).bind fun x =>
  lex_Word.j1 s1 x
/-- lading/lex.span -/
noncomputable def lex_span_v4.j1 [Fuel] (n2 : Int) (v5 : Bool) : Option ((Int) ⊕ (Int)) :=
  bif v5 then
    ((z64 (n2 + 1)).bind fun v6 =>
    some (.inl v6))
  else
    some (.inr n2)
noncomputable def lex_span_v4.b1 [Fuel] (s1 : Bs) (n2 : Int) : Option ((Int) ⊕ (Int)) :=
  (bif (ltZ n2 (s1.length : Int)) then
    ((bAt s1 n2).bind fun c3 =>
    (lex_digit c3).bind fun d4 =>
    some d4)
  else
    some false).bind fun x =>
  lex_span_v4.j1 n2 x
noncomputable def lex_span_v4 [Fuel] (s1 : Bs) : Option Int :=
  loopF (fun x => lex_span_v4.b1 s1 x) 0
/-- lading/lex.Number -/
noncomputable def lex_Number.b1 [Fuel] (s1 : Bs) (n5 : Int) (v6 : Int) : Option ((Int × Int) ⊕ (Int)) :=
  bif (ltZ v6 (s1.length : Int)) then
    ((z64 ((10 : Int) * n5)).bind fun v7 =>
    (bAt s1 v6).bind fun c8 =>
    (z64 (v7 + (IntKind.u8.wrap (c8 - 48)))).bind fun v9 =>
    (z64 (v6 + 1)).bind fun v10 =>
    some (.inl (v9, v10)))
  else
    some (.inr n5)
noncomputable def lex_Number.j1 [Fuel] (n11 : Int) : Option (Int × Bool) :=
  bif (ltZ 1099511627776 n11) then
    some (0, false)
  else
    some (n11, true)
noncomputable def lex_Number.j2 [Fuel] (s1 : Bs) (v4 : Bool) : Option (Int × Bool) :=
  bif v4 then
    some (0, false)
  else
    ((loopF (fun x => lex_Number.b1 s1 x.1 x.2) (0, 0)).bind fun x =>
    lex_Number.j1 x)
noncomputable def lex_Number [Fuel] (s1 : Bs) : Option (Int × Bool) :=
  (bif (decide (s1 = ([] : Bs))) then
    some true
  else
    ((lex_span_v4 s1).bind fun v2 =>
    bif (!eqZ v2 (s1.length : Int)) then
      some true
    else
      ((bAt s1 0).bind fun c3 =>
      bif (eqZ c3 48) then
        (bif (!decide (s1 = ([48] : Bs))) then
          some true
        else
          some (ltZ 13 (s1.length : Int)))
      else
        some (ltZ 13 (s1.length : Int))))).bind fun x =>
  lex_Number.j2 s1 x
/-- internal/stringslite.HasPrefix -/
noncomputable def internal_stringslite_HasPrefix [Fuel] (s1 : Bs) (prefix2 : Bs) : Option Bool :=
  bif (leZ (prefix2.length : Int) (s1.length : Int)) then
    ((cut s1 0 (prefix2.length : Int)).bind fun s3 =>
    some (decide (s3 = prefix2)))
  else
    some false
/-- strings.HasPrefix -/
noncomputable def strings_HasPrefix [Fuel] (s1 : Bs) (prefix2 : Bs) : Option Bool :=
  (internal_stringslite_HasPrefix s1 prefix2).bind fun h3 =>
  some h3
/-- lading/lex.next -/
noncomputable def lex_next.b1 [Fuel] (s1 : Bs) (v12 : Int) : Option ((Int) ⊕ (GToken × Int)) :=
  bif (ltZ v12 14) then
    ((idx ([([61, 61] : Bs), ([59] : Bs), ([44] : Bs), ([61] : Bs), ([60] : Bs), ([43] : Bs), ([45] : Bs), ([42] : Bs), ([46] : Bs), ([33] : Bs), ([40] : Bs), ([41] : Bs), ([123] : Bs), ([125] : Bs)] : List Bs) v12).bind fun v13 =>
    (strings_HasPrefix s1 v13).bind fun h14 =>
    bif h14 then
      some (.inr ((2, v13, 0, 0), 0))
    else
      ((z64 (v12 + 1)).bind fun v15 =>
      some (.inl v15)))
  else
    some (.inr ((0, ([] : Bs), 0, 0), 10))
noncomputable def lex_next [Fuel] (s1 : Bs) : Option (GToken × Int) :=
  (bAt s1 0).bind fun c2 =>
  (lex_letter c2).bind fun l3 =>
  bif l3 then
    ((lex_span_v2 s1).bind fun v4 =>
    (cut s1 0 v4).bind fun s5 =>
    (lex_Word s5).bind fun w6 =>
    bif (!w6) then
      some ((0, ([] : Bs), 0, 0), 12)
    else
      some ((0, s5, 0, 0), 0))
  else
    ((bAt s1 0).bind fun c7 =>
    (lex_digit c7).bind fun d8 =>
    bif d8 then
      ((lex_span_v4 s1).bind fun v9 =>
      (cut s1 0 v9).bind fun s10 =>
      (lex_Number s10).bind fun n11 =>
      bif (!n11.2) then
        some ((0, ([] : Bs), 0, 0), 3)
      else
        some ((1, s10, n11.1, 0), 0))
    else
      (loopF (fun x => lex_next.b1 s1 x) 0))
/-- lading/lex.Lex -/
noncomputable def lex_Lex.b1 [Fuel] (s1 : Bs) (at2 : Int) (out3 : List GToken) : Option ((Int × List GToken) ⊕ ((List GToken) × Int × Int)) :=
  (cut s1 at2 (s1.length : Int)).bind fun s4 =>
  (lex_span s4).bind fun s5 =>
  (z64 (at2 + s5)).bind fun v6 =>
  bif (eqZ v6 (s1.length : Int)) then
    ((app? out3 ([(3, ([] : Bs), 0, v6)] : List GToken)).bind fun l7 =>
    some (.inr (l7, 0, 0)))
  else
    ((cut s1 v6 (s1.length : Int)).bind fun s8 =>
    (lex_next s8).bind fun n9 =>
    bif (!eqZ n9.2 0) then
      some (.inr ([], v6, n9.2))
    else
      ((app? out3 ([(n9.1.1, n9.1.2.1, n9.1.2.2.1, v6)] : List GToken)).bind fun l10 =>
      (z64 (v6 + (n9.1.2.1.length : Int))).bind fun v11 =>
      some (.inl (v11, l10))))
noncomputable def lex_Lex [Fuel] (s1 : Bs) : Option ((List GToken) × Int × Int) :=
  bif (ltZ 8000 (s1.length : Int)) then
    some ([], 0, 6)
  else
    (loopF (fun x => lex_Lex.b1 s1 x.1 x.2) (0, []))
/-- lading/ladingref14.Same -/
noncomputable def ladingref14_Same.b1 [Fuel] (a1 : List GToken) (b2 : List GToken) (i3 : Int) : Option ((Int) ⊕ (Bool)) :=
  bif (ltZ i3 (a1.length : Int)) then
    ((idx a1 i3).bind fun v4 =>
    (idx b2 i3).bind fun v5 =>
    bif (!((eqZ v4.1 v5.1 && (decide (v4.2.1 = v5.2.1) && (eqZ v4.2.2.1 v5.2.2.1 && eqZ v4.2.2.2 v5.2.2.2))))) then
      some (.inr false)
    else
      ((z64 (i3 + 1)).bind fun v6 =>
      some (.inl v6)))
  else
    some (.inr true)
noncomputable def ladingref14_Same [Fuel] (a1 : List GToken) (b2 : List GToken) : Option Bool :=
  bif (!eqZ (a1.length : Int) (b2.length : Int)) then
    some false
  else
    (loopF (fun x => ladingref14_Same.b1 a1 b2 x) 0)
/-- strings.Join -/
noncomputable def strings_Join [Fuel] (l : List Bs) (sep : Bs) : Option Bs := joinF l sep
/-- lading/lex.Text -/
noncomputable def lex_Text.b1 [Fuel] (l1 : List GToken) (v2 : Int) (parts3 : List Bs) : Option ((Int × List Bs) ⊕ (List Bs)) :=
  bif (ltZ v2 (l1.length : Int)) then
    ((idx l1 v2).bind fun v4 =>
    bif (!eqZ v4.1 3) then
      ((app? parts3 ([v4.2.1] : List Bs)).bind fun l5 =>
      (z64 (v2 + 1)).bind fun v6 =>
      some (.inl (v6, l5)))
    else
      ((z64 (v2 + 1)).bind fun v7 =>
      some (.inl (v7, parts3))))
  else
    some (.inr parts3)
noncomputable def lex_Text.j1 [Fuel] (parts8 : List Bs) : Option Bs :=
  (strings_Join parts8 ([32] : Bs)).bind fun j9 =>
  some j9
noncomputable def lex_Text [Fuel] (l1 : List GToken) : Option Bs :=
  (loopF (fun x => lex_Text.b1 l1 x.1 x.2) (0, [])).bind fun x =>
  lex_Text.j1 x
/-- lading/ladinglaw14.small -/
noncomputable def ladinglaw14_small.j1 [Fuel] (l4 : (List GToken) × Int × Int) (n5 : Int × Bool) (n6 : Int × Bool) (v8 : Bool) : Option Bool :=
  bif v8 then
    ((lex_Text l4.1).bind fun t9 =>
    bif (decide (t9 = ([97, 32, 61, 32, 98, 32, 59] : Bs))) then
      ((lex_Word ([97, 49] : Bs)).bind fun w10 =>
      bif w10 then
        ((lex_Word ([49, 97] : Bs)).bind fun w11 =>
        bif (!w11) then
          (bif (eqZ n5.1 12) then
            (bif n5.2 then
              some (!n6.2)
            else
              some false)
          else
            some false)
        else
          some false)
      else
        some false)
    else
      some false)
  else
    some false
noncomputable def ladinglaw14_small [Fuel] : Option Bool :=
  (lex_Lex ([120, 32, 61, 61, 32, 49, 50, 97] : Bs)).bind fun l1 =>
  (lex_Lex ([97, 49, 61, 61, 48, 48, 55] : Bs)).bind fun l2 =>
  (lex_Lex ([97, 32, 58] : Bs)).bind fun l3 =>
  (lex_Lex ([97, 61, 98, 32, 59] : Bs)).bind fun l4 =>
  (lex_Number ([49, 50] : Bs)).bind fun n5 =>
  (lex_Number ([48, 49, 50] : Bs)).bind fun n6 =>
  ((ladingref14_Same l1.1 ([(0, ([120] : Bs), 0, 0), (2, ([61, 61] : Bs), 0, 2), (1, ([49, 50] : Bs), 12, 5), (0, ([97] : Bs), 0, 7), (3, ([] : Bs), 0, 8)] : List GToken)).bind fun s7 =>
  bif s7 then
    (bif (eqZ l1.2.2 0) then
      (bif (eqZ l2.2.2 3) then
        (bif (eqZ l2.2.1 4) then
          (bif (eqZ l3.2.2 10) then
            (bif (eqZ l3.2.1 2) then
              some (eqZ l4.2.2 0)
            else
              some false)
          else
            some false)
        else
          some false)
      else
        some false)
    else
      some false)
  else
    some false).bind fun x =>
  ladinglaw14_small.j1 l4 n5 n6 x
/-- lading/ladinglaw14.cut -/
noncomputable def ladinglaw14_cut [Fuel] (s1 : Bs) : Option Bs :=
  (cut s1 0 (min (s1.length : Int) 3000)).bind fun s2 =>
  some s2
/-- lading/ladingref14.Blank -/
noncomputable def ladingref14_Blank [Fuel] (c1 : Int) : Option Bool :=
  bif (eqZ c1 9) then
    some true
  else
    (bif (eqZ c1 10) then
      some true
    else
      some (eqZ c1 32))
/-- lading/ladingref14.letter -/
noncomputable def ladingref14_letter [Fuel] (c1 : Int) : Option Bool :=
  bif (leZ 97 c1) then
    some (leZ c1 122)
  else
    some false
/-- lading/ladingref14.digit -/
noncomputable def ladingref14_digit [Fuel] (c1 : Int) : Option Bool :=
  bif (leZ 48 c1) then
    some (leZ c1 57)
  else
    some false
/-- lading/ladingref14.Number -/
noncomputable def ladingref14_Number.j1 [Fuel] (s1 : Bs) (n2 : Int) (i3 : Int) (v6 : Bool) : Option ((Int × Int) ⊕ ((Int) ⊕ (Int × Bool))) :=
  bif v6 then
    some (.inr (.inr (0, false)))
  else
    ((z64 ((10 : Int) * n2)).bind fun v7 =>
    (bAt s1 i3).bind fun c8 =>
    (z64 (v7 + c8)).bind fun v9 =>
    (z64 (v9 - 48)).bind fun v10 =>
    (z64 (i3 + 1)).bind fun v11 =>
    some (.inl (v10, v11)))
noncomputable def ladingref14_Number.b1 [Fuel] (s1 : Bs) (n2 : Int) (i3 : Int) : Option ((Int × Int) ⊕ ((Int) ⊕ (Int × Bool))) :=
  bif (ltZ i3 (s1.length : Int)) then
    (((bAt s1 i3).bind fun c4 =>
    (ladingref14_digit c4).bind fun d5 =>
    bif (!d5) then
      some true
    else
      some (ltZ 1099511627776 n2)).bind fun x =>
    ladingref14_Number.j1 s1 n2 i3 x)
  else
    some (.inr (.inl n2))
noncomputable def ladingref14_Number.j2 [Fuel] (n12 : Int) (v14 : Bool) : Option (Int × Bool) :=
  bif v14 then
    some (0, false)
  else
    some (n12, true)
noncomputable def ladingref14_Number.j3 [Fuel] (s1 : Bs) (n12 : Int) : Option (Int × Bool) :=
  (bif (ltZ (s1.length : Int) 1) then
    some true
  else
    (bif (ltZ 1 (s1.length : Int)) then
      ((bAt s1 0).bind fun c13 =>
      bif (eqZ c13 48) then
        some true
      else
        some (ltZ 1099511627776 n12))
    else
      some (ltZ 1099511627776 n12))).bind fun x =>
  ladingref14_Number.j2 n12 x
noncomputable def ladingref14_Number [Fuel] (s1 : Bs) : Option (Int × Bool) :=
  (loopF (fun x => ladingref14_Number.b1 s1 x.1 x.2) (0, 0)).bind fun x => match x with
  | .inl x =>
    ladingref14_Number.j3 s1 x
  | .inr r => some r
/-- lading/ladingref14.sign -/
noncomputable def ladingref14_sign.b1 [Fuel] (s1 : Bs) (at2 : Int) (i8 : Int) : Option ((Int) ⊕ (Int)) :=
  bif (ltZ i8 (([59, 44, 61, 60, 43, 45, 42, 46, 33, 40, 41, 123, 125] : Bs).length : Int)) then
    ((bAt s1 at2).bind fun c9 =>
    (bAt ([59, 44, 61, 60, 43, 45, 42, 46, 33, 40, 41, 123, 125] : Bs) i8).bind fun c10 =>
    bif (eqZ c9 c10) then
      some (.inr 1)
    else
      ((z64 (i8 + 1)).bind fun v11 =>
      some (.inl v11)))
  else
    some (.inr 0)
noncomputable def ladingref14_sign.j1 [Fuel] (s1 : Bs) (at2 : Int) (v7 : Bool) : Option Int :=
  bif v7 then
    some 2
  else
    (loopF (fun x => ladingref14_sign.b1 s1 at2 x) 0)
noncomputable def ladingref14_sign [Fuel] (s1 : Bs) (at2 : Int) : Option Int :=
  ((z64 (at2 + 1)).bind fun v3 =>
  bif (ltZ v3 (s1.length : Int)) then
    ((z64 (at2 + 1)).bind fun v4 =>
    (bAt s1 v4).bind fun c5 =>
    bif (eqZ c5 61) then
      ((bAt s1 at2).bind fun c6 =>
      some (eqZ c6 61))
    else
      some false)
  else
    some false).bind fun x =>
  ladingref14_sign.j1 s1 at2 x
/-- lading/ladingref14.token -/
noncomputable def ladingref14_token.j1 [Fuel] (v6 : Int) (v11 : Bool) : Option ((Int) ⊕ (Int)) :=
  bif v11 then
    ((z64 (v6 + 1)).bind fun v12 =>
    some (.inl v12))
  else
    some (.inr v6)
noncomputable def ladingref14_token.b1 [Fuel] (s1 : Bs) (v6 : Int) : Option ((Int) ⊕ (Int)) :=
  (bif (ltZ v6 (s1.length : Int)) then
    ((bAt s1 v6).bind fun c7 =>
    (ladingref14_letter c7).bind fun l8 =>
    bif l8 then
      some true
    else
      ((bAt s1 v6).bind fun c9 =>
      (ladingref14_digit c9).bind fun d10 =>
      some d10))
  else
    some false).bind fun x =>
  ladingref14_token.j1 v6 x
noncomputable def ladingref14_token.j2 [Fuel] (s1 : Bs) (p2 : Int) (v13 : Int) : Option ((Int) ⊕ (GToken × Int)) :=
  (z64 (v13 - p2)).bind fun v14 =>
  bif (ltZ 20 v14) then
    some (.inr ((0, ([] : Bs), 0, 0), 12))
  else
    ((cut s1 p2 v13).bind fun s15 =>
    some (.inr ((0, s15, 0, p2), 0)))
noncomputable def ladingref14_token.j3 [Fuel] (v19 : Int) (v22 : Bool) : Option ((Int) ⊕ (Int)) :=
  bif v22 then
    ((z64 (v19 + 1)).bind fun v23 =>
    some (.inl v23))
  else
    some (.inr v19)
noncomputable def ladingref14_token.b2 [Fuel] (s1 : Bs) (v19 : Int) : Option ((Int) ⊕ (Int)) :=
  (bif (ltZ v19 (s1.length : Int)) then
    ((bAt s1 v19).bind fun c20 =>
    (ladingref14_digit c20).bind fun d21 =>
    some d21)
  else
    some false).bind fun x =>
  ladingref14_token.j3 v19 x
noncomputable def ladingref14_token.j4 [Fuel] (s1 : Bs) (p2 : Int) (v24 : Int) : Option ((Unit) ⊕ (GToken × Int)) :=
  (cut s1 p2 v24).bind fun s25 =>
  (ladingref14_Number s25).bind fun n26 =>
  bif (!n26.2) then
    some (.inr ((0, ([] : Bs), 0, 0), 3))
  else
    ((cut s1 p2 v24).bind fun s27 =>
    some (.inr ((1, s27, n26.1, p2), 0)))
noncomputable def ladingref14_token.j5 [Fuel] (s1 : Bs) (p2 : Int) : Option (GToken × Int) :=
  (ladingref14_sign s1 p2).bind fun s28 =>
  bif (eqZ s28 0) then
    some ((0, ([] : Bs), 0, 0), 10)
  else
    ((z64 (p2 + s28)).bind fun v29 =>
    (cut s1 p2 v29).bind fun s30 =>
    some ((2, s30, 0, p2), 0))
noncomputable def ladingref14_token.j6 [Fuel] (s1 : Bs) (p2 : Int) (v16 : Int) : Option (GToken × Int) :=
  ((bAt s1 p2).bind fun c17 =>
  (ladingref14_digit c17).bind fun d18 =>
  bif d18 then
    ((loopF (fun x => ladingref14_token.b2 s1 x) v16).bind fun x =>
    ladingref14_token.j4 s1 p2 x)
  else
    some (.inl ())).bind fun x => match x with
  | .inl x =>
    ladingref14_token.j5 s1 p2
  | .inr r => some r
noncomputable def ladingref14_token [Fuel] (s1 : Bs) (p2 : Int) : Option (GToken × Int) :=
  (z64 (p2 + 1)).bind fun v3 =>
  ((bAt s1 p2).bind fun c4 =>
  (ladingref14_letter c4).bind fun l5 =>
  bif l5 then
    ((loopF (fun x => ladingref14_token.b1 s1 x) v3).bind fun x =>
    ladingref14_token.j2 s1 p2 x)
  else
    some (.inl v3)).bind fun x => match x with
  | .inl x =>
    ladingref14_token.j6 s1 p2 x
  | .inr r => some r
/-- lading/ladingref14.Lex -/
noncomputable def ladingref14_Lex.b1 [Fuel] (s1 : Bs) (at2 : Int) (out3 : List GToken) : Option ((Int × List GToken) ⊕ ((List GToken) × Int × Int)) :=
  bif (ltZ at2 (s1.length : Int)) then
    ((bAt s1 at2).bind fun c4 =>
    (ladingref14_Blank c4).bind fun b5 =>
    bif b5 then
      ((z64 (at2 + 1)).bind fun v6 =>
      some (.inl (v6, out3)))
    else
      ((ladingref14_token s1 at2).bind fun t7 =>
      bif (!eqZ t7.2 0) then
        some (.inr ([], at2, t7.2))
      else
        ((app? out3 ([t7.1] : List GToken)).bind fun l8 =>
        (z64 (at2 + (t7.1.2.1.length : Int))).bind fun v9 =>
        some (.inl (v9, l8)))))
  else
    (Option.map Sum.inr ((app? out3 ([(3, ([] : Bs), 0, (s1.length : Int))] : List GToken)).bind fun l10 =>
    some (l10, 0, 0)))
noncomputable def ladingref14_Lex [Fuel] (s1 : Bs) : Option ((List GToken) × Int × Int) :=
  bif (ltZ 8000 (s1.length : Int)) then
    some ([], 0, 6)
  else
    (loopF (fun x => ladingref14_Lex.b1 s1 x.1 x.2) (0, []))
/-- lading/ladingref14.Word -/
noncomputable def ladingref14_Word.j1 [Fuel] (i5 : Int) (v10 : Bool) : Option ((Int) ⊕ (Bool)) :=
  bif v10 then
    some (.inr false)
  else
    ((z64 (i5 + 1)).bind fun v11 =>
    some (.inl v11))
noncomputable def ladingref14_Word.b1 [Fuel] (s1 : Bs) (i5 : Int) : Option ((Int) ⊕ (Bool)) :=
  bif (ltZ i5 (s1.length : Int)) then
    (((bAt s1 i5).bind fun c6 =>
    (ladingref14_letter c6).bind fun l7 =>
    bif (!l7) then
      ((bAt s1 i5).bind fun c8 =>
      (ladingref14_digit c8).bind fun d9 =>
      some (!d9))
    else
      some false).bind fun x =>
    ladingref14_Word.j1 i5 x)
  else
    some (.inr true)
noncomputable def ladingref14_Word.j2 [Fuel] (s1 : Bs) (v4 : Bool) : Option Bool :=
  bif v4 then
    some false
  else
    (loopF (fun x => ladingref14_Word.b1 s1 x) 1)
noncomputable def ladingref14_Word [Fuel] (s1 : Bs) : Option Bool :=
  (bif (ltZ (s1.length : Int) 1) then
    some true
  else
    (bif (ltZ 20 (s1.length : Int)) then
      some true
    else
      ((bAt s1 0).bind fun c2 =>
      (ladingref14_letter c2).bind fun l3 =>
      some (!l3)))).bind fun x =>
  ladingref14_Word.j2 s1 x
/-- lading/ladingref14.Text -/
noncomputable def ladingref14_Text.b1 [Fuel] (l1 : List GToken) (s2 : Bs) (first3 : Bool) (i4 : Int) : Option ((Bs × Bool × Int) ⊕ (Bs)) :=
  bif (ltZ i4 (l1.length : Int)) then
    ((idx l1 i4).bind fun v5 =>
    bif (eqZ v5.1 3) then
      ((z64 (i4 + 1)).bind fun v6 =>
      some (.inl (s2, first3, v6)))
    else
      (bif (!first3) then
        ((cat? s2 ([32] : Bs)).bind fun s7 =>
        (idx l1 i4).bind fun v8 =>
        (cat? s7 v8.2.1).bind fun s9 =>
        (z64 (i4 + 1)).bind fun v10 =>
        some (.inl (s9, false, v10)))
      else
        ((idx l1 i4).bind fun v11 =>
        (cat? s2 v11.2.1).bind fun s12 =>
        (z64 (i4 + 1)).bind fun v13 =>
        some (.inl (s12, false, v13)))))
  else
    some (.inr s2)
noncomputable def ladingref14_Text [Fuel] (l1 : List GToken) : Option Bs :=
  loopF (fun x => ladingref14_Text.b1 l1 x.1 x.2.1 x.2.2) (([] : Bs), true, 0)
/-- lading/ladinglaw14.LexTells -/
noncomputable def ladinglaw14_LexTells.b1 [Fuel] (p2 : List GToken) (s3 : Bool) (v4 : Int) : Option ((Int) ⊕ ((Unit) ⊕ (Bool))) :=
  bif (ltZ v4 (p2.length : Int)) then
    ((idx p2 v4).bind fun v5 =>
    bif (ltZ 100 (v5.2.1.length : Int)) then
      some (.inr (.inr s3))
    else
      ((z64 (v4 + 1)).bind fun v6 =>
      some (.inl v6)))
  else
    some (.inr (.inl ()))
noncomputable def ladinglaw14_LexTells.j1 [Fuel] (s1 : Bs) (p2 : List GToken) (s3 : Bool) : Option Bool :=
  (ladinglaw14_cut s1).bind fun c7 =>
  (lex_Lex c7).bind fun l8 =>
  (ladingref14_Lex c7).bind fun l9 =>
  (lex_Number c7).bind fun n10 =>
  (ladingref14_Number c7).bind fun n11 =>
  bif s3 then
    ((ladingref14_Same l8.1 l9.1).bind fun s12 =>
    bif s12 then
      (bif (eqZ l8.2.1 l9.2.1) then
        (bif (eqZ l8.2.2 l9.2.2) then
          (bif (eqZ n10.1 n11.1) then
            (bif (n10.2 == n11.2) then
              ((lex_Word c7).bind fun w13 =>
              (ladingref14_Word c7).bind fun w14 =>
              bif (w13 == w14) then
                ((lex_Text p2).bind fun t15 =>
                (ladingref14_Text p2).bind fun t16 =>
                some (decide (t15 = t16)))
              else
                some false)
            else
              some false)
          else
            some false)
        else
          some false)
      else
        some false)
    else
      some false)
  else
    some false
noncomputable def ladinglaw14_LexTells [Fuel] (s1 : Bs) (p2 : List GToken) : Option Bool :=
  (ladinglaw14_small).bind fun s3 =>
  bif (ltZ 100 (p2.length : Int)) then
    some s3
  else
    ((loopF (fun x => ladinglaw14_LexTells.b1 p2 s3 x) 0).bind fun x => match x with
    | .inl x =>
      ladinglaw14_LexTells.j1 s1 p2 s3
    | .inr r => some r)
/-- lading/ladingref14.Like -/
noncomputable def ladingref14_Like.j1 [Fuel] (i3 : Int) (v10 : Bool) : Option ((Int) ⊕ (Bool)) :=
  bif v10 then
    some (.inr false)
  else
    ((z64 (i3 + 1)).bind fun v11 =>
    some (.inl v11))
noncomputable def ladingref14_Like.b1 [Fuel] (a1 : List GToken) (b2 : List GToken) (i3 : Int) : Option ((Int) ⊕ (Bool)) :=
  bif (ltZ i3 (a1.length : Int)) then
    (((idx a1 i3).bind fun v4 =>
    (idx b2 i3).bind fun v5 =>
    bif (!eqZ v4.1 v5.1) then
      some true
    else
      ((idx a1 i3).bind fun v6 =>
      (idx b2 i3).bind fun v7 =>
      bif (!decide (v6.2.1 = v7.2.1)) then
        some true
      else
        ((idx a1 i3).bind fun v8 =>
        (idx b2 i3).bind fun v9 =>
        some (!eqZ v8.2.2.1 v9.2.2.1)))).bind fun x =>
    ladingref14_Like.j1 i3 x)
  else
    some (.inr true)
noncomputable def ladingref14_Like [Fuel] (a1 : List GToken) (b2 : List GToken) : Option Bool :=
  bif (!eqZ (a1.length : Int) (b2.length : Int)) then
    some false
  else
    (loopF (fun x => ladingref14_Like.b1 a1 b2 x) 0)
/-- lading/ladinglaw14.LexBack -/
noncomputable def ladinglaw14_LexBack [Fuel] (s1 : Bs) : Option Bool :=
  (ladinglaw14_small).bind fun s2 =>
  (ladinglaw14_cut s1).bind fun c3 =>
  (lex_Lex c3).bind fun l4 =>
  bif (!eqZ l4.2.2 0) then
    (bif s2 then
      some (eqZ (l4.1.length : Int) 0)
    else
      some false)
  else
    ((lex_Text l4.1).bind fun t5 =>
    (lex_Lex t5).bind fun l6 =>
    bif s2 then
      (bif (eqZ l6.2.2 0) then
        ((ladingref14_Like l4.1 l6.1).bind fun l7 =>
        bif l7 then
          ((lex_Text l6.1).bind fun t8 =>
          some (decide (t8 = t5)))
        else
          some false)
      else
        some false)
    else
      some false)
/-- lading/ladinglaw14.LexPlaces -/
noncomputable def ladinglaw14_LexPlaces.b1 [Fuel] (c3 : Bs) (v6 : Int) (v7 : GToken) (v14 : Int) : Option ((Int) ⊕ ((Int × Int) ⊕ ((Int) ⊕ (Bool)))) :=
  bif (ltZ v14 v7.2.2.2) then
    ((bAt c3 v14).bind fun c15 =>
    (ladingref14_Blank c15).bind fun b16 =>
    bif (!b16) then
      some (.inr (.inr (.inr false)))
    else
      ((z64 (v14 + 1)).bind fun v17 =>
      some (.inl v17)))
  else
    (Option.map Sum.inr ((z64 (v7.2.2.2 + (v7.2.1.length : Int))).bind fun v18 =>
    (z64 (v6 + 1)).bind fun v19 =>
    some (.inl (v18, v19))))
noncomputable def ladinglaw14_LexPlaces.j1 [Fuel] (c3 : Bs) (v5 : Int) (v6 : Int) (v7 : GToken) (v11 : Bool) : Option ((Int × Int) ⊕ ((Int) ⊕ (Bool))) :=
  bif v11 then
    some (.inr (.inr false))
  else
    ((z64 (v7.2.2.2 + (v7.2.1.length : Int))).bind fun v12 =>
    (cut c3 v7.2.2.2 v12).bind fun s13 =>
    bif (!decide (s13 = v7.2.1)) then
      some (.inr (.inr false))
    else
      (loopF (fun x => ladinglaw14_LexPlaces.b1 c3 v6 v7 x) v5))
noncomputable def ladinglaw14_LexPlaces.b2 [Fuel] (c3 : Bs) (l4 : (List GToken) × Int × Int) (v5 : Int) (v6 : Int) : Option ((Int × Int) ⊕ ((Int) ⊕ (Bool))) :=
  bif (ltZ v6 (l4.1.length : Int)) then
    ((idx l4.1 v6).bind fun v7 =>
    (bif (ltZ v7.2.2.2 v5) then
      some true
    else
      ((z64 ((c3.length : Int) - (v7.2.1.length : Int))).bind fun v8 =>
      bif (ltZ v8 v7.2.2.2) then
        some true
      else
        ((z64 ((l4.1.length : Int) - 1)).bind fun v9 =>
        bif (!((decide (v7.2.1 = ([] : Bs))) == (eqZ v6 v9))) then
          some true
        else
          ((z64 ((l4.1.length : Int) - 1)).bind fun v10 =>
          bif (!((eqZ v7.1 3) == (eqZ v6 v10))) then
            some true
          else
            (bif (!eqZ v7.1 1) then
              some (!eqZ v7.2.2.1 0)
            else
              some false))))).bind fun x =>
    ladinglaw14_LexPlaces.j1 c3 v5 v6 v7 x)
  else
    some (.inr (.inl v5))
noncomputable def ladinglaw14_LexPlaces.j2 [Fuel] (s2 : Bool) (c3 : Bs) (l4 : (List GToken) × Int × Int) (v20 : Int) : Option Bool :=
  bif s2 then
    (bif (eqZ l4.2.1 0) then
      (bif (eqZ v20 (c3.length : Int)) then
        some (ltZ 0 (l4.1.length : Int))
      else
        some false)
    else
      some false)
  else
    some false
noncomputable def ladinglaw14_LexPlaces [Fuel] (s1 : Bs) : Option Bool :=
  (ladinglaw14_small).bind fun s2 =>
  (ladinglaw14_cut s1).bind fun c3 =>
  (lex_Lex c3).bind fun l4 =>
  bif (!eqZ l4.2.2 0) then
    (bif s2 then
      (bif (leZ 0 l4.2.1) then
        some (ltZ l4.2.1 (c3.length : Int))
      else
        some false)
    else
      some false)
  else
    ((loopF (fun x => ladinglaw14_LexPlaces.b2 c3 l4 x.1 x.2) (0, 0)).bind fun x => match x with
    | .inl x =>
      ladinglaw14_LexPlaces.j2 s2 c3 l4 x
    | .inr r => some r)
/-- lading/ladinglaw14.LexJoins -/
noncomputable def ladinglaw14_LexJoins.j1 [Fuel] (l14 : (List GToken) × Int × Int) (v20 : Int) (v28 : Int) (v29 : Bs) (v30 : Int) (v31 : Int) : Option ((Int) ⊕ (Bool)) :=
  (idx l14.1 v20).bind fun v32 =>
  bif (!((eqZ v32.1 v28 && (decide (v32.2.1 = v29) && (eqZ v32.2.2.1 v30 && eqZ v32.2.2.2 v31))))) then
    some (.inr false)
  else
    ((z64 (v20 + 1)).bind fun v33 =>
    some (.inl v33))
noncomputable def ladinglaw14_LexJoins.b1 [Fuel] (s4 : Bool) (c5 : Bs) (l10 : (List GToken) × Int × Int) (l11 : (List GToken) × Int × Int) (l14 : (List GToken) × Int × Int) (v20 : Int) : Option ((Int) ⊕ (Bool)) :=
  bif (ltZ v20 (l14.1.length : Int)) then
    (((z64 ((l10.1.length : Int) - 1)).bind fun v21 =>
    bif (ltZ v20 v21) then
      ((idx l10.1 v20).bind fun v22 =>
      some (v22.1, v22.2.1, v22.2.2.1, v22.2.2.2))
    else
      ((z64 (v20 - (l10.1.length : Int))).bind fun v23 =>
      (z64 (v23 + 1)).bind fun v24 =>
      (idx l11.1 v24).bind fun v25 =>
      (z64 (v25.2.2.2 + (c5.length : Int))).bind fun v26 =>
      (z64 (v26 + 1)).bind fun v27 =>
      some (v25.1, v25.2.1, v25.2.2.1, v27))).bind fun x =>
    ladinglaw14_LexJoins.j1 l14 v20 x.1 x.2.1 x.2.2.1 x.2.2.2)
  else
    some (.inr s4)
noncomputable def ladinglaw14_LexJoins.j2 [Fuel] (s4 : Bool) (c5 : Bs) (l10 : (List GToken) × Int × Int) (l11 : (List GToken) × Int × Int) (l14 : (List GToken) × Int × Int) (v19 : Bool) : Option Bool :=
  bif v19 then
    some false
  else
    (loopF (fun x => ladinglaw14_LexJoins.b1 s4 c5 l10 l11 l14 x) 0)
noncomputable def ladinglaw14_LexJoins [Fuel] (s1 : Bs) (p2 : Bs) (p3 : Int) : Option Bool :=
  (ladinglaw14_small).bind fun s4 =>
  (ladinglaw14_cut s1).bind fun c5 =>
  (ladinglaw14_cut p2).bind fun c6 =>
  (remZ .u8 p3 3).bind fun v7 =>
  (remZ .u8 p3 3).bind fun v8 =>
  (cut ([9, 10, 32] : Bs) v7 (IntKind.u8.wrap (v8 + 1))).bind fun s9 =>
  (lex_Lex c5).bind fun l10 =>
  (lex_Lex c6).bind fun l11 =>
  (cat? c5 s9).bind fun s12 =>
  (cat? s12 c6).bind fun s13 =>
  (lex_Lex s13).bind fun l14 =>
  bif (!eqZ l10.2.2 0) then
    (bif s4 then
      (bif (eqZ l14.2.2 l10.2.2) then
        (bif (eqZ l14.2.1 l10.2.1) then
          some (eqZ (l14.1.length : Int) 0)
        else
          some false)
      else
        some false)
    else
      some false)
  else
    (bif (!eqZ l11.2.2 0) then
      (bif s4 then
        (bif (eqZ l14.2.2 l11.2.2) then
          ((z64 ((c5.length : Int) + 1)).bind fun v15 =>
          (z64 (v15 + l11.2.1)).bind fun v16 =>
          bif (eqZ l14.2.1 v16) then
            some (eqZ (l14.1.length : Int) 0)
          else
            some false)
        else
          some false)
      else
        some false)
    else
      ((bif (!eqZ l14.2.2 0) then
        some true
      else
        (bif (ltZ (l10.1.length : Int) 1) then
          some true
        else
          ((z64 ((l10.1.length : Int) - 1)).bind fun v17 =>
          (z64 (v17 + (l11.1.length : Int))).bind fun v18 =>
          some (!eqZ (l14.1.length : Int) v18)))).bind fun x =>
      ladinglaw14_LexJoins.j2 s4 c5 l10 l11 l14 x))
/-- lading/ladinglaw14.LexErrors -/
noncomputable def ladinglaw14_LexErrors.b1 [Fuel] (v5 : Bs) : Option ((Bs) ⊕ (Bs)) :=
  bif (ltZ (v5.length : Int) 8000) then
    ((cat? v5 v5).bind fun s6 =>
    some (.inl s6))
  else
    some (.inr v5)
noncomputable def ladinglaw14_LexErrors.j1 [Fuel] (s2 : Bool) (c3 : Bs) (l4 : (List GToken) × Int × Int) (v17 : Bool) : Option Bool :=
  bif v17 then
    some false
  else
    ((cut c3 0 l4.2.1).bind fun s18 =>
    (lex_Lex s18).bind fun l19 =>
    (cut c3 l4.2.1 (c3.length : Int)).bind fun s20 =>
    (lex_Lex s20).bind fun l21 =>
    bif s2 then
      (bif (eqZ l19.2.2 0) then
        (bif (eqZ l21.2.2 l4.2.2) then
          some (eqZ l21.2.1 0)
        else
          some false)
      else
        some false)
    else
      some false)
noncomputable def ladinglaw14_LexErrors.j2 [Fuel] (s2 : Bool) (c3 : Bs) (l4 : (List GToken) × Int × Int) (v16 : Bool) : Option Bool :=
  bif v16 then
    some false
  else
    (bif (eqZ l4.2.2 0) then
      some s2
    else
      ((bif (ltZ l4.2.1 0) then
        some true
      else
        (bif (leZ (c3.length : Int) l4.2.1) then
          some true
        else
          (bif (!eqZ l4.2.2 10) then
            (bif (!eqZ l4.2.2 12) then
              some (!eqZ l4.2.2 3)
            else
              some false)
          else
            some false))).bind fun x =>
      ladinglaw14_LexErrors.j1 s2 c3 l4 x))
noncomputable def ladinglaw14_LexErrors.j3 [Fuel] (s2 : Bool) (c3 : Bs) (l4 : (List GToken) × Int × Int) (v7 : Bs) : Option Bool :=
  (z64 ((8000 : Int) - (c3.length : Int))).bind fun v8 =>
  (cut v7 0 v8).bind fun s9 =>
  (cat? c3 s9).bind fun s10 =>
  (lex_Lex s10).bind fun l11 =>
  (z64 ((8001 : Int) - (c3.length : Int))).bind fun v12 =>
  (cut v7 0 v12).bind fun s13 =>
  (cat? c3 s13).bind fun s14 =>
  (lex_Lex s14).bind fun l15 =>
  (bif (!eqZ l15.2.2 6) then
    some true
  else
    (bif (!eqZ l15.2.1 0) then
      some true
    else
      (bif (!eqZ l11.2.2 l4.2.2) then
        some true
      else
        some (!eqZ (l11.1.length : Int) (l4.1.length : Int))))).bind fun x =>
  ladinglaw14_LexErrors.j2 s2 c3 l4 x
noncomputable def ladinglaw14_LexErrors [Fuel] (s1 : Bs) : Option Bool :=
  (ladinglaw14_small).bind fun s2 =>
  (ladinglaw14_cut s1).bind fun c3 =>
  (lex_Lex c3).bind fun l4 =>
  (loopF (fun x => ladinglaw14_LexErrors.b1 x) ([32, 32, 32, 32, 32, 32, 32, 32, 32, 32] : Bs)).bind fun x =>
  ladinglaw14_LexErrors.j3 s2 c3 l4 x
/-- lading/ladinglaw14.LexWords -/
noncomputable def ladinglaw14_LexWords.j1 [Fuel] (s2 : Bool) (c3 : Bs) (l4 : (List GToken) × Int × Int) (n5 : Int × Bool) (w6 : Bool) (v12 : Bool) : Option Bool :=
  bif v12 then
    some false
  else
    (bif s2 then
      (bif (!w6) then
        (bif (!n5.2) then
          some true
        else
          ((idx l4.1 0).bind fun v13 =>
          bif (eqZ n5.1 v13.2.2.1) then
            (bif (leZ 0 n5.1) then
              some (leZ n5.1 1099511627776)
            else
              some false)
          else
            some false))
      else
        (bif (leZ (c3.length : Int) 20) then
          (bif (!n5.2) then
            some true
          else
            ((idx l4.1 0).bind fun v14 =>
            bif (eqZ n5.1 v14.2.2.1) then
              (bif (leZ 0 n5.1) then
                some (leZ n5.1 1099511627776)
              else
                some false)
            else
              some false))
        else
          some false))
    else
      some false)
noncomputable def ladinglaw14_LexWords.j2 [Fuel] (s2 : Bool) (c3 : Bs) (l4 : (List GToken) × Int × Int) (n5 : Int × Bool) (w6 : Bool) (v7 : Bool) : Option Bool :=
  bif v7 then
    (bif s2 then
      (bif (!w6) then
        (bif (!n5.2) then
          some (eqZ n5.1 0)
        else
          some false)
      else
        some false)
    else
      some false)
  else
    ((idx l4.1 0).bind fun v8 =>
    (bif (decide (v8.2.1 = c3)) then
      ((idx l4.1 0).bind fun v9 =>
      bif (!(w6 == (eqZ v9.1 0))) then
        some true
      else
        (bif (decide (v8.2.1 = c3)) then
          ((idx l4.1 0).bind fun v10 =>
          some (!(n5.2 == (eqZ v10.1 1))))
        else
          some (!(n5.2 == false))))
    else
      (bif (!(w6 == false)) then
        some true
      else
        (bif (decide (v8.2.1 = c3)) then
          ((idx l4.1 0).bind fun v11 =>
          some (!(n5.2 == (eqZ v11.1 1))))
        else
          some (!(n5.2 == false))))).bind fun x =>
    ladinglaw14_LexWords.j1 s2 c3 l4 n5 w6 x)
noncomputable def ladinglaw14_LexWords [Fuel] (s1 : Bs) : Option Bool :=
  (ladinglaw14_small).bind fun s2 =>
  (ladinglaw14_cut s1).bind fun c3 =>
  (lex_Lex c3).bind fun l4 =>
  (lex_Number c3).bind fun n5 =>
  (lex_Word c3).bind fun w6 =>
  (bif (!eqZ l4.2.2 0) then
    some true
  else
    some (!eqZ (l4.1.length : Int) 2)).bind fun x =>
  ladinglaw14_LexWords.j2 s2 c3 l4 n5 w6 x
end Go.Proofs.YtblcedjcialnhaaDoor
