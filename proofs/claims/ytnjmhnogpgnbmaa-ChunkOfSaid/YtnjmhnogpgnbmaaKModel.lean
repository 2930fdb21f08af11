/-
  The functions as plain Lean.
-/
import Derived.Test.YtnjmhnogpgnbmaaE2
import Derived.Test.YtnjmhnogpgnbmaaItm
import Derived.Test.YtnjmhnogpgnbmaaProg
import Derived.KernelRfl
namespace Go.Proofs.Ytnjmhnogpgnbmaa
open Go.Lad
set_option linter.unusedVariables false
/-- Print, Size, Chunks -/
abbrev GManifest : Type := Int × Int × List Int
/-- lading/chunk.sized -/
noncomputable def chunk_sized [Fuel] (size1 : Int) : Option Bool :=
 bif (leZ 1 size1) then
  some (leZ size1 4096)
 else
  some false
/-- lading/content.size -/
noncomputable def content_size.b1 [Fuel] (list1 : List Bs) (n2 : Int) (v3 : Int) : Option ((Int × Int) ⊕ (Int)) :=
 bif (ltZ v3 (list1.length : Int)) then
  ((idx list1 v3).bind fun v4 =>
  (z64 (n2 + (v4.length : Int))).bind fun v5 =>
  (z64 (v3 + 1)).bind fun v6 =>
  some (.inl (v5, v6)))
 else
  some (.inr n2)
noncomputable def content_size [Fuel] (list1 : List Bs) : Option Int :=
 loopF (fun x => content_size.b1 list1 x.1 x.2) (0, 0)
/-- lading/content.Right -/
noncomputable def content_Right.b1 [Fuel] (list1 : List Bs) (v2 : Int) (seen3 : List (Bs × Bool)) : Option ((Int × List (Bs × Bool)) ⊕ (List (Bs × Bool))) :=
 bif (ltZ v2 (list1.length : Int)) then
  ((idx list1 v2).bind fun v4 =>
  (z64 (v2 + 1)).bind fun v5 =>
  some (.inl (v5, (putM seen3 v4 true))))
 else
  some (.inr seen3)
noncomputable def content_Right.j1 [Fuel] (list1 : List Bs) (seen6 : List (Bs × Bool)) : Option Bool :=
 (need (seen6.length ≤ 9223372036854775807)).bind fun _7 =>
 bif (eqZ (seen6.length : Int) (list1.length : Int)) then
  ((content_size list1).bind fun s8 =>
  some (leZ s8 1048576))
 else
  some false
noncomputable def content_Right [Fuel] (list1 : List Bs) : Option Bool :=
 (loopF (fun x => content_Right.b1 list1 x.1 x.2) (0, ([] : List (Bs × Bool)))).bind fun x =>
 content_Right.j1 list1 x
/-- slices.Index[[]string,string] -/
noncomputable def slices_Index_string_string.b1 [Fuel] (s1 : List Bs) (p2 : Bs) (v3 : Int) : Option ((Int) ⊕ (Int)) :=
 bif (ltZ v3 (s1.length : Int)) then
  ((idx s1 v3).bind fun v4 =>
  bif (decide (p2 = v4)) then
   some (.inr v3)
  else
   ((z64 (v3 + 1)).bind fun v5 =>
   some (.inl v5)))
 else
  some (.inr (-1))
noncomputable def slices_Index_string_string [Fuel] (s1 : List Bs) (p2 : Bs) : Option Int :=
 loopF (fun x => slices_Index_string_string.b1 s1 p2 x) 0
/-- lading/content.Print -/
noncomputable def content_Print [Fuel] (list1 : List Bs) (s2 : Bs) : Option Int :=
 (slices_Index_string_string list1 s2).bind fun s3 =>
 some s3
/-- slices.Clone[[]string,string] -/
noncomputable def slices_Clone_string_string [Fuel] (s1 : List Bs) : Option (List Bs) :=
 bothN s1 (
  some []) (
  (app? ([] : List Bs) s1).bind fun l2 =>
  some l2)
/-- lading/content.Add -/
noncomputable def content_Add [Fuel] (list1 : List Bs) (s2 : Bs) : Option (Int × Int × List Bs) :=
 (content_Right list1).bind fun r3 =>
 bif (!r3) then
  some (0, 1, [])
 else
  ((content_Print list1 s2).bind fun p4 =>
  bif (leZ 0 p4) then
   ((slices_Clone_string_string list1).bind fun s5 =>
   some (p4, 0, s5))
  else
   ((content_size list1).bind fun s6 =>
   (z64 (s6 + (s2.length : Int))).bind fun v7 =>
   bif (ltZ 1048576 v7) then
    some (0, 6, [])
   else
    ((slices_Clone_string_string list1).bind fun s8 =>
    (app? s8 ([s2] : List Bs)).bind fun l9 =>
    some ((list1.length : Int), 0, l9))))
/-- lading/chunk.parts -/
noncomputable def chunk_parts [Fuel] (text1 : Bs) (size2 : Int) : Option (Bs × Int) :=
 some (text1, size2)
/-- lading/chunk.Of -/
noncomputable def chunk_Of.r1 [Fuel] (s18 : Bs) (v12 : Int) (v13 : Int) (v14 : Int) (v15 : Int) (v16 : List Bs) (v17 : List Int) : Option ((Int × Int × Int × Int × (List Bs) × List Int) ⊕ (Int × Int × Int × (List Bs) × List Int)) :=
 bif (!eqZ v13 0) then
  some (.inr (v13, v14, v15, v16, v17))
 else
  ((content_Add v16 s18).bind fun a20 =>
  (app? v17 ([a20.1] : List Int)).bind fun l21 =>
  some (.inl (a20.1, a20.2.1, v14, v15, a20.2.2, l21)))
noncomputable def chunk_Of.j1 [Fuel] (v22 : Int) (v23 : Int) (v24 : Int) (v25 : Int) (v26 : List Bs) (v27 : List Int) : Option (Int × Int × Int × (List Bs) × List Int) :=
 some (v23, v24, v25, v26, v27)
noncomputable def chunk_Of.j2 [Fuel] (v28 : Int) (v29 : Int) (v30 : Int) (v31 : List Bs) (v32 : List Int) : Option ((List Bs) × GManifest × Int) :=
 bif (!eqZ v28 0) then
  some ([], (0, 0, []), v28)
 else
  some (v31, (v29, v30, v32), 0)
noncomputable def chunk_Of.j3 [Fuel] (contents1 : List Bs) (p2 : Bs) (p3 : Int) (v6 : Bool) : Option ((List Bs) × GManifest × Int) :=
 bif v6 then
  some ([], (0, 0, []), 1)
 else
  ((z64 ((p2.length : Int) + p3)).bind fun v7 =>
  (z64 (v7 - 1)).bind fun v8 =>
  (quoZ .i64 v8 p3).bind fun v9 =>
  bif (ltZ 1000 v9) then
   some ([], (0, 0, []), 6)
  else
   ((content_Add contents1 p2).bind fun a10 =>
   ((chunk_parts p2 p3).bind fun p11 =>
   (partsF p11.1 p11.2).bind fun xs19 =>
   (foldR (fun _ r x => chunk_Of.r1 r x.1 x.2.1 x.2.2.1 x.2.2.2.1 x.2.2.2.2.1 x.2.2.2.2.2) 0 xs19 (a10.1, a10.2.1, a10.1, (p2.length : Int), a10.2.2, [])).bind fun x => match x with
   | .inl x =>
    chunk_Of.j1 x.1 x.2.1 x.2.2.1 x.2.2.2.1 x.2.2.2.2.1 x.2.2.2.2.2
   | .inr r => some r).bind fun x =>
   chunk_Of.j2 x.1 x.2.1 x.2.2.1 x.2.2.2.1 x.2.2.2.2))
noncomputable def chunk_Of [Fuel] (contents1 : List Bs) (p2 : Bs) (p3 : Int) : Option ((List Bs) × GManifest × Int) :=
 ((chunk_sized p3).bind fun s4 =>
 bif (!s4) then
  some true
 else
  ((content_Right contents1).bind fun r5 =>
  some (!r5))).bind fun x =>
 chunk_Of.j3 contents1 p2 p3 x
/-- lading/content.Text -/
noncomputable def content_Text.j1 [Fuel] (list1 : List Bs) (n2 : Int) (v3 : Bool) : Option (Bs × Bool) :=
 bif v3 then
  some (([] : Bs), false)
 else
  ((idx list1 n2).bind fun v4 =>
  some (v4, true))
noncomputable def content_Text [Fuel] (list1 : List Bs) (n2 : Int) : Option (Bs × Bool) :=
 (bif (ltZ n2 0) then
  some true
 else
  some (leZ (list1.length : Int) n2)).bind fun x =>
 content_Text.j1 list1 n2 x
/-- internal/stringslite.HasPrefix -/
noncomputable def internal_stringslite_HasPrefix [Fuel] (s1 : Bs) (prefix2 : Bs) : Option Bool :=
 bif (leZ (prefix2.length : Int) (s1.length : Int)) then
  ((cut s1 0 (prefix2.length : Int)).bind fun s3 =>
  some (decide (s3 = prefix2)))
 else
  some false
/-- internal/stringslite.CutPrefix -/
noncomputable def internal_stringslite_CutPrefix [Fuel] (s1 : Bs) (prefix2 : Bs) : Option (Bs × Bool) :=
 (internal_stringslite_HasPrefix s1 prefix2).bind fun h3 =>
 bif (!h3) then
  some (s1, false)
 else
  ((cut s1 (prefix2.length : Int) (s1.length : Int)).bind fun s4 =>
  some (s4, true))
/-- strings.CutPrefix -/
noncomputable def strings_CutPrefix [Fuel] (s1 : Bs) (prefix2 : Bs) : Option (Bs × Bool) :=
 (internal_stringslite_CutPrefix s1 prefix2).bind fun c3 =>
 some (c3.1, c3.2)
/-- lading/chunk.Right -/
noncomputable def chunk_Right.j1 [Fuel] (v7 : Int) (c10 : Bs × Bool) (v11 : Bool) : Option ((Bs × Int) ⊕ (Bool)) :=
 bif v11 then
  some (.inr false)
 else
  ((z64 (v7 + 1)).bind fun v12 =>
  some (.inl (c10.1, v12)))
noncomputable def chunk_Right.b1 [Fuel] (contents1 : List Bs) (p2 : GManifest) (v6 : Bs) (v7 : Int) : Option ((Bs × Int) ⊕ (Bool)) :=
 bif (ltZ v7 (p2.2.2.length : Int)) then
  ((idx p2.2.2 v7).bind fun v8 =>
  (content_Text contents1 v8).bind fun t9 =>
  (strings_CutPrefix v6 t9.1).bind fun c10 =>
  (bif (!t9.2) then
   some true
  else
   (bif (decide (t9.1 = ([] : Bs))) then
    some true
   else
    (bif (ltZ 4096 (t9.1.length : Int)) then
     some true
    else
     some (!c10.2)))).bind fun x =>
  chunk_Right.j1 v7 c10 x)
 else
  some (.inr (decide (v6 = ([] : Bs))))
noncomputable def chunk_Right.j2 [Fuel] (contents1 : List Bs) (p2 : GManifest) (t3 : Bs × Bool) (v5 : Bool) : Option Bool :=
 bif v5 then
  some false
 else
  (loopF (fun x => chunk_Right.b1 contents1 p2 x.1 x.2) (t3.1, 0))
noncomputable def chunk_Right [Fuel] (contents1 : List Bs) (p2 : GManifest) : Option Bool :=
 (content_Text contents1 p2.1).bind fun t3 =>
 (bif (!t3.2) then
  some true
 else
  ((content_Right contents1).bind fun r4 =>
  bif (!r4) then
   some true
  else
   (bif (!eqZ p2.2.1 (t3.1.length : Int)) then
    some true
   else
    some (ltZ 1000 (p2.2.2.length : Int))))).bind fun x =>
 chunk_Right.j2 contents1 p2 t3 x
/-- lading/chunk.Check -/
noncomputable def chunk_Check.j1 [Fuel] (contents1 : List Bs) (m2 : GManifest) (i3 : Int) (text4 : Bs) (v5 : Bool) : Option Bool :=
 bif v5 then
  some false
 else
  ((idx m2.2.2 i3).bind fun v6 =>
  (content_Text contents1 v6).bind fun t7 =>
  bif t7.2 then
   some (decide (t7.1 = text4))
  else
   some false)
noncomputable def chunk_Check [Fuel] (contents1 : List Bs) (m2 : GManifest) (i3 : Int) (text4 : Bs) : Option Bool :=
 (bif (ltZ i3 0) then
  some true
 else
  some (leZ (m2.2.2.length : Int) i3)).bind fun x =>
 chunk_Check.j1 contents1 m2 i3 text4 x
/-- strings.Join -/
noncomputable def strings_Join [Fuel] (l : List Bs) (sep : Bs) : Option Bs := joinF l sep
/-- lading/chunk.Join -/
noncomputable def chunk_Join.b1 [Fuel] (contents1 : List Bs) (m2 : GManifest) (chunks3 : List Bs) (v6 : Int) : Option ((Int) ⊕ ((Unit) ⊕ (Bs × Int))) :=
 bif (ltZ v6 (chunks3.length : Int)) then
  ((idx chunks3 v6).bind fun v7 =>
  (chunk_Check contents1 m2 v6 v7).bind fun c8 =>
  bif (!c8) then
   some (.inr (.inr (([] : Bs), 28)))
  else
   ((z64 (v6 + 1)).bind fun v9 =>
   some (.inl v9)))
 else
  some (.inr (.inl ()))
noncomputable def chunk_Join.j1 [Fuel] (chunks3 : List Bs) : Option (Bs × Int) :=
 (strings_Join chunks3 ([] : Bs)).bind fun j10 =>
 some (j10, 0)
noncomputable def chunk_Join.j2 [Fuel] (contents1 : List Bs) (m2 : GManifest) (chunks3 : List Bs) (v5 : Bool) : Option (Bs × Int) :=
 bif v5 then
  some (([] : Bs), 1)
 else
  ((loopF (fun x => chunk_Join.b1 contents1 m2 chunks3 x) 0).bind fun x => match x with
  | .inl x =>
   chunk_Join.j1 chunks3
  | .inr r => some r)
noncomputable def chunk_Join [Fuel] (contents1 : List Bs) (m2 : GManifest) (chunks3 : List Bs) : Option (Bs × Int) :=
 ((chunk_Right contents1 m2).bind fun r4 =>
 bif (!r4) then
  some true
 else
  some (!eqZ (chunks3.length : Int) (m2.2.2.length : Int))).bind fun x =>
 chunk_Join.j2 contents1 m2 chunks3 x
/-- slices.AppendSeq[[]string,string] -/
noncomputable def slices_AppendSeq_string_string.r1 [Fuel] (s4 : Bs) (v3 : List Bs) : Option ((List Bs) ⊕ (List Bs)) :=
 (app? v3 ([s4] : List Bs)).bind fun l6 =>
 some (.inl l6)
noncomputable def slices_AppendSeq_string_string.j1 [Fuel] (v7 : List Bs) : Option (List Bs) :=
 some v7
noncomputable def slices_AppendSeq_string_string [Fuel] (p1 : Bs) (p2 : Int) : Option (List Bs) :=
 (partsF p1 p2).bind fun xs5 =>
 (foldR (fun _ r x => slices_AppendSeq_string_string.r1 r x) 0 xs5 []).bind fun x => match x with
 | .inl x =>
  slices_AppendSeq_string_string.j1 x
 | .inr r => some r
/-- slices.Collect[string] -/
noncomputable def slices_Collect_string [Fuel] (p1 : Bs) (p2 : Int) : Option (List Bs) :=
 (slices_AppendSeq_string_string p1 p2).bind fun s3 =>
 some s3
/-- lading/chunk.Cut -/
noncomputable def chunk_Cut [Fuel] (text1 : Bs) (size2 : Int) : Option (List Bs) :=
 (chunk_sized size2).bind fun s3 =>
 bif (!s3) then
  some []
 else
  ((chunk_parts text1 size2).bind fun p4 =>
  (slices_Collect_string p4.1 p4.2).bind fun s5 =>
  some s5)
/-- lading/ladingref04.Same -/
noncomputable def ladingref04_Same.b1 [Fuel] (a1 : List Bs) (b2 : List Bs) (i3 : Int) : Option ((Int) ⊕ (Bool)) :=
 bif (ltZ i3 (a1.length : Int)) then
  ((idx a1 i3).bind fun v4 =>
  (idx b2 i3).bind fun v5 =>
  bif (!decide (v4 = v5)) then
   some (.inr false)
  else
   ((z64 (i3 + 1)).bind fun v6 =>
   some (.inl v6)))
 else
  some (.inr true)
noncomputable def ladingref04_Same [Fuel] (a1 : List Bs) (b2 : List Bs) : Option Bool :=
 bif (!eqZ (a1.length : Int) (b2.length : Int)) then
  some false
 else
  (loopF (fun x => ladingref04_Same.b1 a1 b2 x) 0)
/-- lading/ladingref36.Same -/
noncomputable def ladingref36_Same.b1 [Fuel] (a1 : GManifest) (b2 : GManifest) (i4 : Int) : Option ((Int) ⊕ (Bool)) :=
 bif (ltZ i4 (a1.2.2.length : Int)) then
  ((idx a1.2.2 i4).bind fun v5 =>
  (idx b2.2.2 i4).bind fun v6 =>
  bif (!eqZ v5 v6) then
   some (.inr false)
  else
   ((z64 (i4 + 1)).bind fun v7 =>
   some (.inl v7)))
 else
  some (.inr true)
noncomputable def ladingref36_Same.j1 [Fuel] (a1 : GManifest) (b2 : GManifest) (v3 : Bool) : Option Bool :=
 bif v3 then
  some false
 else
  (loopF (fun x => ladingref36_Same.b1 a1 b2 x) 0)
noncomputable def ladingref36_Same [Fuel] (a1 : GManifest) (b2 : GManifest) : Option Bool :=
 (bif (!eqZ a1.1 b2.1) then
  some true
 else
  (bif (!eqZ a1.2.1 b2.2.1) then
   some true
  else
   some (!eqZ (a1.2.2.length : Int) (b2.2.2.length : Int)))).bind fun x =>
 ladingref36_Same.j1 a1 b2 x
/-- lading/ladinglaw36.small -/
noncomputable def ladinglaw36_small.j1 [Fuel] (o1 : (List Bs) × GManifest × Int) (j2 : Bs × Int) (j3 : Bs × Int) (v8 : Bool) : Option Bool :=
 bif v8 then
  (bif (eqZ o1.2.2 0) then
   (bif (decide (j2.1 = ([97, 98, 99, 100] : Bs))) then
    (bif (eqZ j2.2 0) then
     (bif (eqZ j3.2 28) then
      ((chunk_Right o1.1 o1.2.1).bind fun r9 =>
      some r9)
     else
      some false)
    else
     some false)
   else
    some false)
  else
   some false)
 else
  some false
noncomputable def ladinglaw36_small [Fuel] : Option Bool :=
 (chunk_Of ([([99, 100] : Bs)] : List Bs) ([97, 98, 99, 100] : Bs) 2).bind fun o1 =>
 (chunk_Join o1.1 o1.2.1 ([([97, 98] : Bs), ([99, 100] : Bs)] : List Bs)).bind fun j2 =>
 (chunk_Join o1.1 o1.2.1 ([([97, 98] : Bs), ([97, 98] : Bs)] : List Bs)).bind fun j3 =>
 ((chunk_Cut ([97, 98, 99, 100, 101] : Bs) 2).bind fun c4 =>
 (ladingref04_Same c4 ([([97, 98] : Bs), ([99, 100] : Bs), ([101] : Bs)] : List Bs)).bind fun s5 =>
 bif s5 then
  ((ladingref04_Same o1.1 ([([99, 100] : Bs), ([97, 98, 99, 100] : Bs), ([97, 98] : Bs)] : List Bs)).bind fun s6 =>
  bif s6 then
   ((ladingref36_Same o1.2.1 (1, 4, ([2, 0] : List Int))).bind fun s7 =>
   some s7)
  else
   some false)
 else
  some false).bind fun x =>
 ladinglaw36_small.j1 o1 j2 j3 x
/-- lading/ladinglaw36.few -/
noncomputable def ladinglaw36_few.j1 [Fuel] (l1 : List Bs) (n2 : Int) (i3 : Int) (v4 : Bool) : Option ((Int) ⊕ (Bool)) :=
 bif v4 then
  ((idx l1 i3).bind fun v5 =>
  bif (ltZ 3000 (v5.length : Int)) then
   some (.inr false)
  else
   ((z64 (i3 + 1)).bind fun v6 =>
   some (.inl v6)))
 else
  some (.inr (leZ (l1.length : Int) n2))
noncomputable def ladinglaw36_few.b1 [Fuel] (l1 : List Bs) (n2 : Int) (i3 : Int) : Option ((Int) ⊕ (Bool)) :=
 (bif (ltZ i3 (l1.length : Int)) then
  some (leZ i3 n2)
 else
  some false).bind fun x =>
 ladinglaw36_few.j1 l1 n2 i3 x
noncomputable def ladinglaw36_few [Fuel] (l1 : List Bs) (n2 : Int) : Option Bool :=
 loopF (fun x => ladinglaw36_few.b1 l1 n2 x) 0
/-- lading/ladinglaw36.light -/
noncomputable def ladinglaw36_light [Fuel] (m1 : GManifest) : Option Bool :=
 some (leZ (m1.2.2.length : Int) 40)
/-- lading/ladinglaw36.ChunkJoins -/
noncomputable def ladinglaw36_ChunkJoins.j1 [Fuel] (contents1 : List Bs) (p2 : GManifest) (p3 : List Bs) (v12 : Bool) (v13 : Bs) (v14 : Int) (v15 : Bool) : Option ((Bool × Bs × Int) ⊕ (Bool × Bs)) :=
 bif v15 then
  ((idx p2.2.2 v14).bind fun v16 =>
  (content_Text contents1 v16).bind fun t17 =>
  bif t17.2 then
   ((idx p3 v14).bind fun v18 =>
   bif (decide (t17.1 = v18)) then
    ((idx p3 v14).bind fun v19 =>
    (chunk_Check contents1 p2 v14 v19).bind fun c20 =>
    (idx p3 v14).bind fun v21 =>
    (cat? v13 v21).bind fun s22 =>
    (z64 (v14 + 1)).bind fun v23 =>
    some (.inl (c20, s22, v23)))
   else
    ((idx p3 v14).bind fun v24 =>
    (cat? v13 v24).bind fun s25 =>
    (z64 (v14 + 1)).bind fun v26 =>
    some (.inl (false, s25, v26))))
  else
   ((idx p3 v14).bind fun v27 =>
   (cat? v13 v27).bind fun s28 =>
   (z64 (v14 + 1)).bind fun v29 =>
   some (.inl (false, s28, v29))))
 else
  some (.inr (v12, v13))
noncomputable def ladinglaw36_ChunkJoins.b1 [Fuel] (contents1 : List Bs) (p2 : GManifest) (p3 : List Bs) (v12 : Bool) (v13 : Bs) (v14 : Int) : Option ((Bool × Bs × Int) ⊕ (Bool × Bs)) :=
 (bif (ltZ v14 (p3.length : Int)) then
  some v12
 else
  some false).bind fun x =>
 ladinglaw36_ChunkJoins.j1 contents1 p2 p3 v12 v13 v14 x
noncomputable def ladinglaw36_ChunkJoins.j2 [Fuel] (s4 : Bool) (j9 : Bs × Int) (v30 : Bool) (v31 : Bs) (t32 : Bs × Bool) (v33 : Bool) : Option Bool :=
 bif v33 then
  some false
 else
  (bif s4 then
   (bif (!v30) then
    some true
   else
    (bif (decide (j9.1 = t32.1)) then
     some (decide (j9.1 = v31))
    else
     some false))
  else
   some false)
noncomputable def ladinglaw36_ChunkJoins.j3 [Fuel] (contents1 : List Bs) (p2 : GManifest) (s4 : Bool) (j9 : Bs × Int) (r10 : Bool) (v30 : Bool) (v31 : Bs) : Option Bool :=
 (content_Text contents1 p2.1).bind fun t32 =>
 (bif r10 then
  (bif (!t32.2) then
   some true
  else
   (bif (!eqZ p2.2.1 (t32.1.length : Int)) then
    some true
   else
    (bif (!((eqZ j9.2 0) == v30)) then
     some true
    else
     (bif (!v30) then
      some (!decide (j9.1 = ([] : Bs)))
     else
      some false))))
 else
  (bif (!((eqZ j9.2 0) == v30)) then
   some true
  else
   (bif (!v30) then
    some (!decide (j9.1 = ([] : Bs)))
   else
    some false))).bind fun x =>
 ladinglaw36_ChunkJoins.j2 s4 j9 v30 v31 t32 x
noncomputable def ladinglaw36_ChunkJoins.j4 [Fuel] (contents1 : List Bs) (p2 : GManifest) (p3 : List Bs) (s4 : Bool) (j9 : Bs × Int) (r10 : Bool) (v11 : Bool) : Option Bool :=
 (loopF (fun x => ladinglaw36_ChunkJoins.b1 contents1 p2 p3 x.1 x.2.1 x.2.2) (v11, ([] : Bs), 0)).bind fun x =>
 ladinglaw36_ChunkJoins.j3 contents1 p2 s4 j9 r10 x.1 x.2
noncomputable def ladinglaw36_ChunkJoins.j5 [Fuel] (contents1 : List Bs) (p2 : GManifest) (p3 : List Bs) (s4 : Bool) (v8 : Bool) : Option Bool :=
 bif v8 then
  some s4
 else
  ((chunk_Join contents1 p2 p3).bind fun j9 =>
  (chunk_Right contents1 p2).bind fun r10 =>
  (bif r10 then
   some (eqZ (p3.length : Int) (p2.2.2.length : Int))
  else
   some false).bind fun x =>
  ladinglaw36_ChunkJoins.j4 contents1 p2 p3 s4 j9 r10 x)
noncomputable def ladinglaw36_ChunkJoins [Fuel] (contents1 : List Bs) (p2 : GManifest) (p3 : List Bs) : Option Bool :=
 (ladinglaw36_small).bind fun s4 =>
 ((ladinglaw36_few contents1 30).bind fun f5 =>
 bif (!f5) then
  some true
 else
  ((ladinglaw36_light p2).bind fun l6 =>
  bif (!l6) then
   some true
  else
   ((ladinglaw36_few p3 40).bind fun f7 =>
   some (!f7)))).bind fun x =>
 ladinglaw36_ChunkJoins.j5 contents1 p2 p3 s4 x
/-- lading/ladinglaw36.ChunkCuts -/
noncomputable def ladinglaw36_ChunkCuts.b1 [Fuel] (c18 : List Bs) (v19 : Bs) (v20 : Int) : Option ((Bs × Int) ⊕ (Bs)) :=
 bif (ltZ v20 (c18.length : Int)) then
  ((idx c18 v20).bind fun v21 =>
  (cat? v19 v21).bind fun s22 =>
  (z64 (v20 + 1)).bind fun v23 =>
  some (.inl (s22, v23)))
 else
  some (.inr v19)
noncomputable def ladinglaw36_ChunkCuts.j1 [Fuel] (v7 : Int) (s14 : Bs) (v26 : Bool) : Option ((Bs × Int) ⊕ (Bool)) :=
 bif v26 then
  some (.inr false)
 else
  ((z64 (v7 + 1)).bind fun v27 =>
  some (.inl (s14, v27)))
noncomputable def ladinglaw36_ChunkCuts.j2 [Fuel] (c4 : List Bs) (v7 : Int) (s14 : Bs) (c18 : List Bs) (v24 : Bs) : Option ((Bs × Int) ⊕ (Bool)) :=
 ((idx c4 v7).bind fun v25 =>
 bif (!decide (v24 = v25)) then
  some true
 else
  some (ltZ 3 (c18.length : Int))).bind fun x =>
 ladinglaw36_ChunkCuts.j1 v7 s14 x
noncomputable def ladinglaw36_ChunkCuts.j3 [Fuel] (p2 : Int) (c4 : List Bs) (v6 : Bs) (v7 : Int) (v12 : Bool) : Option ((Bs × Int) ⊕ (Bool)) :=
 bif v12 then
  some (.inr false)
 else
  ((idx c4 v7).bind fun v13 =>
  (cat? v6 v13).bind fun s14 =>
  bif (ltZ p2 2) then
   ((z64 (v7 + 1)).bind fun v15 =>
   some (.inl (s14, v15)))
  else
   ((idx c4 v7).bind fun v16 =>
   (quoZ .i64 p2 2).bind fun v17 =>
   (chunk_Cut v16 v17).bind fun c18 =>
   (loopF (fun x => ladinglaw36_ChunkCuts.b1 c18 x.1 x.2) (([] : Bs), 0)).bind fun x =>
   ladinglaw36_ChunkCuts.j2 c4 v7 s14 c18 x))
noncomputable def ladinglaw36_ChunkCuts.b2 [Fuel] (text1 : Bs) (p2 : Int) (s3 : Bool) (c4 : List Bs) (v6 : Bs) (v7 : Int) : Option ((Bs × Int) ⊕ (Bool)) :=
 bif (ltZ v7 (c4.length : Int)) then
  (((idx c4 v7).bind fun v8 =>
  bif (decide (v8 = ([] : Bs))) then
   some true
  else
   ((idx c4 v7).bind fun v9 =>
   bif (ltZ p2 (v9.length : Int)) then
    some true
   else
    ((z64 ((c4.length : Int) - 1)).bind fun v10 =>
    bif (ltZ v7 v10) then
     ((idx c4 v7).bind fun v11 =>
     some (!eqZ (v11.length : Int) p2))
    else
     some false))).bind fun x =>
  ladinglaw36_ChunkCuts.j3 p2 c4 v6 v7 x)
 else
  (Option.map Sum.inr (bif s3 then
   some (decide (v6 = text1))
  else
   some false))
noncomputable def ladinglaw36_ChunkCuts.j4 [Fuel] (text1 : Bs) (p2 : Int) (s3 : Bool) (c4 : List Bs) (v5 : Bool) : Option Bool :=
 bif v5 then
  (bif s3 then
   some (eqZ (c4.length : Int) 0)
  else
   some false)
 else
  (loopF (fun x => ladinglaw36_ChunkCuts.b2 text1 p2 s3 c4 x.1 x.2) (([] : Bs), 0))
noncomputable def ladinglaw36_ChunkCuts [Fuel] (text1 : Bs) (p2 : Int) : Option Bool :=
 (ladinglaw36_small).bind fun s3 =>
 bif (ltZ 3000 (text1.length : Int)) then
  some s3
 else
  ((chunk_Cut text1 p2).bind fun c4 =>
  (bif (ltZ p2 1) then
   some true
  else
   some (ltZ 4096 p2)).bind fun x =>
  ladinglaw36_ChunkCuts.j4 text1 p2 s3 c4 x)
/-- lading/ladingref04.Print -/
noncomputable def ladingref04_Print.b1 [Fuel] (list1 : List Bs) (s2 : Bs) (i3 : Int) : Option ((Int) ⊕ (Int)) :=
 bif (ltZ i3 (list1.length : Int)) then
  ((idx list1 i3).bind fun v4 =>
  bif (decide (v4 = s2)) then
   some (.inr i3)
  else
   ((z64 (i3 + 1)).bind fun v5 =>
   some (.inl v5)))
 else
  some (.inr (-1))
noncomputable def ladingref04_Print [Fuel] (list1 : List Bs) (s2 : Bs) : Option Int :=
 loopF (fun x => ladingref04_Print.b1 list1 s2 x) 0
/-- lading/ladingref04.bytes -/
noncomputable def ladingref04_bytes.b1 [Fuel] (list1 : List Bs) (n2 : Int) (i3 : Int) : Option ((Int × Int) ⊕ (Int)) :=
 bif (ltZ i3 (list1.length : Int)) then
  ((idx list1 i3).bind fun v4 =>
  (z64 (n2 + (v4.length : Int))).bind fun v5 =>
  (z64 (i3 + 1)).bind fun v6 =>
  some (.inl (v5, v6)))
 else
  some (.inr n2)
noncomputable def ladingref04_bytes [Fuel] (list1 : List Bs) : Option Int :=
 loopF (fun x => ladingref04_bytes.b1 list1 x.1 x.2) (0, 0)
/-- lading/ladingref04.Right -/
noncomputable def ladingref04_Right.b1 [Fuel] (list1 : List Bs) (i2 : Int) : Option ((Int) ⊕ ((Unit) ⊕ (Bool))) :=
 bif (ltZ i2 (list1.length : Int)) then
  ((idx list1 i2).bind fun v3 =>
  (ladingref04_Print list1 v3).bind fun p4 =>
  bif (!eqZ p4 i2) then
   some (.inr (.inr false))
  else
   ((z64 (i2 + 1)).bind fun v5 =>
   some (.inl v5)))
 else
  some (.inr (.inl ()))
noncomputable def ladingref04_Right.j1 [Fuel] (list1 : List Bs) : Option Bool :=
 (ladingref04_bytes list1).bind fun b6 =>
 some (leZ b6 1048576)
noncomputable def ladingref04_Right [Fuel] (list1 : List Bs) : Option Bool :=
 (loopF (fun x => ladingref04_Right.b1 list1 x) 0).bind fun x => match x with
 | .inl x =>
  ladingref04_Right.j1 list1
 | .inr r => some r
/-- lading/ladingref36.Cut -/
noncomputable def ladingref36_Cut.b1 [Fuel] (text1 : Bs) (size2 : Int) (at4 : Int) (out5 : List Bs) : Option ((Int × List Bs) ⊕ (List Bs)) :=
 bif (ltZ at4 (text1.length : Int)) then
  ((z64 (at4 + size2)).bind fun v6 =>
  (cut text1 at4 (min v6 (text1.length : Int))).bind fun s7 =>
  (app? out5 ([s7] : List Bs)).bind fun l8 =>
  (z64 (at4 + size2)).bind fun v9 =>
  some (.inl (v9, l8)))
 else
  some (.inr out5)
noncomputable def ladingref36_Cut.j1 [Fuel] (text1 : Bs) (size2 : Int) (v3 : Bool) : Option (List Bs) :=
 bif v3 then
  some []
 else
  (loopF (fun x => ladingref36_Cut.b1 text1 size2 x.1 x.2) (0, []))
noncomputable def ladingref36_Cut [Fuel] (text1 : Bs) (size2 : Int) : Option (List Bs) :=
 (bif (ltZ size2 1) then
  some true
 else
  some (ltZ 4096 size2)).bind fun x =>
 ladingref36_Cut.j1 text1 size2 x
/-- lading/ladingref04.Add -/
noncomputable def ladingref04_Add [Fuel] (list1 : List Bs) (s2 : Bs) : Option (Int × Int × List Bs) :=
 (ladingref04_Right list1).bind fun r3 =>
 bif (!r3) then
  some (0, 1, [])
 else
  ((app? ([] : List Bs) list1).bind fun l4 =>
  (ladingref04_Print list1 s2).bind fun p5 =>
  bif (leZ 0 p5) then
   some (p5, 0, l4)
  else
   ((ladingref04_bytes list1).bind fun b6 =>
   (z64 (b6 + (s2.length : Int))).bind fun v7 =>
   bif (ltZ 1048576 v7) then
    some (0, 6, [])
   else
    ((app? l4 ([s2] : List Bs)).bind fun l8 =>
    some ((list1.length : Int), 0, l8))))
/-- lading/ladingref04.Add -/
noncomputable def ladingref04_Add_v2 [Fuel] (list1 : List Bs) (s2 : Bs) : Option ((List Bs) × Int × Int) :=
 (ladingref04_Right list1).bind fun r3 =>
 bif (!r3) then
  some ([], 0, 1)
 else
  ((app? ([] : List Bs) list1).bind fun l4 =>
  (ladingref04_Print list1 s2).bind fun p5 =>
  bif (leZ 0 p5) then
   some (l4, p5, 0)
  else
   ((ladingref04_bytes list1).bind fun b6 =>
   (z64 (b6 + (s2.length : Int))).bind fun v7 =>
   bif (ltZ 1048576 v7) then
    some ([], 0, 6)
   else
    ((app? l4 ([s2] : List Bs)).bind fun l8 =>
    some (l8, (list1.length : Int), 0))))
/-- lading/ladingref36.Of -/
noncomputable def ladingref36_Of.b1 [Fuel] (c6 : List Bs) (v8 : List Bs) (v9 : Int) (v10 : Int) (v11 : Int) (v12 : List Int) : Option (((List Bs) × Int × Int × Int × List Int) ⊕ ((List Bs) × GManifest × Int)) :=
 bif (ltZ v9 (c6.length : Int)) then
  ((idx c6 v9).bind fun v13 =>
  (ladingref04_Add_v2 v8 v13).bind fun v14 =>
  bif (!eqZ v14.2.2 0) then
   some (.inr ([], (0, 0, []), v14.2.2))
  else
   ((app? v12 ([v14.2.1] : List Int)).bind fun l15 =>
   (z64 (v9 + 1)).bind fun v16 =>
   some (.inl (v14.1, v16, v10, v11, l15))))
 else
  some (.inr (v8, (v10, v11, v12), 0))
noncomputable def ladingref36_Of.j1 [Fuel] (contents1 : List Bs) (p2 : Bs) (p3 : Int) (v5 : Bool) : Option ((List Bs) × GManifest × Int) :=
 bif v5 then
  some ([], (0, 0, []), 1)
 else
  ((ladingref36_Cut p2 p3).bind fun c6 =>
  bif (ltZ 1000 (c6.length : Int)) then
   some ([], (0, 0, []), 6)
  else
   ((ladingref04_Add contents1 p2).bind fun a7 =>
   bif (!eqZ a7.2.1 0) then
    some ([], (0, 0, []), a7.2.1)
   else
    (loopF (fun x => ladingref36_Of.b1 c6 x.1 x.2.1 x.2.2.1 x.2.2.2.1 x.2.2.2.2) (a7.2.2, 0, a7.1, (p2.length : Int), []))))
noncomputable def ladingref36_Of [Fuel] (contents1 : List Bs) (p2 : Bs) (p3 : Int) : Option ((List Bs) × GManifest × Int) :=
 (ladingref04_Right contents1).bind fun r4 =>
 (bif (ltZ p3 1) then
  some true
 else
  (bif (ltZ 4096 p3) then
   some true
  else
   some (!r4))).bind fun x =>
 ladingref36_Of.j1 contents1 p2 p3 x
/-- lading/ladingref04.Text -/
noncomputable def ladingref04_Text.j1 [Fuel] (list1 : List Bs) (n2 : Int) (v3 : Bool) : Option (Bs × Bool) :=
 bif v3 then
  some (([] : Bs), false)
 else
  ((idx list1 n2).bind fun v4 =>
  some (v4, true))
noncomputable def ladingref04_Text [Fuel] (list1 : List Bs) (n2 : Int) : Option (Bs × Bool) :=
 (bif (ltZ n2 0) then
  some true
 else
  some (leZ (list1.length : Int) n2)).bind fun x =>
 ladingref04_Text.j1 list1 n2 x
/-- lading/ladingref36.Right -/
noncomputable def ladingref36_Right.j1 [Fuel] (v6 : Int) (v7 : Int) (t9 : Bs × Bool) (v13 : Bool) : Option ((Int × Int) ⊕ (Bool)) :=
 bif v13 then
  some (.inr false)
 else
  ((z64 (v6 + (t9.1.length : Int))).bind fun v14 =>
  (z64 (v7 + 1)).bind fun v15 =>
  some (.inl (v14, v15)))
noncomputable def ladingref36_Right.b1 [Fuel] (contents1 : List Bs) (p2 : GManifest) (t3 : Bs × Bool) (v6 : Int) (v7 : Int) : Option ((Int × Int) ⊕ (Bool)) :=
 bif (ltZ v7 (p2.2.2.length : Int)) then
  ((idx p2.2.2 v7).bind fun v8 =>
  (ladingref04_Text contents1 v8).bind fun t9 =>
  (bif (!t9.2) then
   some true
  else
   (bif (decide (t9.1 = ([] : Bs))) then
    some true
   else
    (bif (ltZ 4096 (t9.1.length : Int)) then
     some true
    else
     ((z64 (v6 + (t9.1.length : Int))).bind fun v10 =>
     bif (ltZ (t3.1.length : Int) v10) then
      some true
     else
      ((z64 (v6 + (t9.1.length : Int))).bind fun v11 =>
      (cut t3.1 v6 v11).bind fun s12 =>
      some (!decide (s12 = t9.1))))))).bind fun x =>
  ladingref36_Right.j1 v6 v7 t9 x)
 else
  some (.inr (eqZ v6 (t3.1.length : Int)))
noncomputable def ladingref36_Right.j2 [Fuel] (contents1 : List Bs) (p2 : GManifest) (t3 : Bs × Bool) (v5 : Bool) : Option Bool :=
 bif v5 then
  some false
 else
  (loopF (fun x => ladingref36_Right.b1 contents1 p2 t3 x.1 x.2) (0, 0))
noncomputable def ladingref36_Right [Fuel] (contents1 : List Bs) (p2 : GManifest) : Option Bool :=
 (ladingref04_Text contents1 p2.1).bind fun t3 =>
 (ladingref04_Right contents1).bind fun r4 =>
 (bif (!r4) then
  some true
 else
  (bif (!t3.2) then
   some true
  else
   (bif (!eqZ p2.2.1 (t3.1.length : Int)) then
    some true
   else
    some (ltZ 1000 (p2.2.2.length : Int))))).bind fun x =>
 ladingref36_Right.j2 contents1 p2 t3 x
/-- lading/ladingref36.Check -/
noncomputable def ladingref36_Check.j1 [Fuel] (contents1 : List Bs) (m2 : GManifest) (i3 : Int) (text4 : Bs) (v5 : Bool) : Option Bool :=
 bif v5 then
  some false
 else
  ((idx m2.2.2 i3).bind fun v6 =>
  (ladingref04_Text contents1 v6).bind fun t7 =>
  bif t7.2 then
   some (decide (t7.1 = text4))
  else
   some false)
noncomputable def ladingref36_Check [Fuel] (contents1 : List Bs) (m2 : GManifest) (i3 : Int) (text4 : Bs) : Option Bool :=
 (bif (ltZ i3 0) then
  some true
 else
  some (leZ (m2.2.2.length : Int) i3)).bind fun x =>
 ladingref36_Check.j1 contents1 m2 i3 text4 x
/-- lading/ladingref36.Join -/
noncomputable def ladingref36_Join.b1 [Fuel] (contents1 : List Bs) (m2 : GManifest) (chunks3 : List Bs) (s6 : Bs) (i7 : Int) : Option ((Bs × Int) ⊕ (Bs × Int)) :=
 bif (ltZ i7 (chunks3.length : Int)) then
  ((idx chunks3 i7).bind fun v8 =>
  (ladingref36_Check contents1 m2 i7 v8).bind fun c9 =>
  bif (!c9) then
   some (.inr (([] : Bs), 28))
  else
   ((idx chunks3 i7).bind fun v10 =>
   (cat? s6 v10).bind fun s11 =>
   (z64 (i7 + 1)).bind fun v12 =>
   some (.inl (s11, v12))))
 else
  some (.inr (s6, 0))
noncomputable def ladingref36_Join.j1 [Fuel] (contents1 : List Bs) (m2 : GManifest) (chunks3 : List Bs) (v5 : Bool) : Option (Bs × Int) :=
 bif v5 then
  some (([] : Bs), 1)
 else
  (loopF (fun x => ladingref36_Join.b1 contents1 m2 chunks3 x.1 x.2) (([] : Bs), 0))
noncomputable def ladingref36_Join [Fuel] (contents1 : List Bs) (m2 : GManifest) (chunks3 : List Bs) : Option (Bs × Int) :=
 ((ladingref36_Right contents1 m2).bind fun r4 =>
 bif (!r4) then
  some true
 else
  some (!eqZ (chunks3.length : Int) (m2.2.2.length : Int))).bind fun x =>
 ladingref36_Join.j1 contents1 m2 chunks3 x
/-- slices.Index[[]int,int] -/
noncomputable def slices_Index_int_int.b1 [Fuel] (s1 : List Int) (p2 : Int) (v3 : Int) : Option ((Int) ⊕ (Int)) :=
 bif (ltZ v3 (s1.length : Int)) then
  ((idx s1 v3).bind fun v4 =>
  bif (eqZ p2 v4) then
   some (.inr v3)
  else
   ((z64 (v3 + 1)).bind fun v5 =>
   some (.inl v5)))
 else
  some (.inr (-1))
noncomputable def slices_Index_int_int [Fuel] (s1 : List Int) (p2 : Int) : Option Int :=
 loopF (fun x => slices_Index_int_int.b1 s1 p2 x) 0
/-- slices.Contains[[]int,int] -/
noncomputable def slices_Contains_int_int [Fuel] (s1 : List Int) (p2 : Int) : Option Bool :=
 (slices_Index_int_int s1 p2).bind fun i3 =>
 some (leZ 0 i3)
/-- lading/chunk.Missing -/
noncomputable def chunk_Missing.b1 [Fuel] (m1 : GManifest) (have2 : List Int) (v3 : Int) (out4 : List Int) : Option ((Int × List Int) ⊕ (List Int)) :=
 bif (ltZ v3 (m1.2.2.length : Int)) then
  ((idx m1.2.2 v3).bind fun v5 =>
  (slices_Contains_int_int have2 v5).bind fun i6 =>
  bif (!i6) then
   ((app? out4 ([v3] : List Int)).bind fun l7 =>
   (z64 (v3 + 1)).bind fun v8 =>
   some (.inl (v8, l7)))
  else
   ((z64 (v3 + 1)).bind fun v9 =>
   some (.inl (v9, out4))))
 else
  some (.inr out4)
noncomputable def chunk_Missing [Fuel] (m1 : GManifest) (have2 : List Int) : Option (List Int) :=
 loopF (fun x => chunk_Missing.b1 m1 have2 x.1 x.2) (0, [])
/-- lading/ladingref36.Missing -/
noncomputable def ladingref36_Missing.b1 [Fuel] (m1 : GManifest) (have2 : List Int) (i3 : Int) (there5 : Bool) (k6 : Int) : Option ((Bool × Int) ⊕ (Bool)) :=
 bif (ltZ k6 (have2.length : Int)) then
  (bif there5 then
   ((z64 (k6 + 1)).bind fun v7 =>
   some (.inl (true, v7)))
  else
   ((idx have2 k6).bind fun v8 =>
   (idx m1.2.2 i3).bind fun v9 =>
   (z64 (k6 + 1)).bind fun v10 =>
   some (.inl ((eqZ v8 v9), v10))))
 else
  some (.inr there5)
noncomputable def ladingref36_Missing.j1 [Fuel] (i3 : Int) (out4 : List Int) (there11 : Bool) : Option ((Int × List Int) ⊕ (List Int)) :=
 bif (!there11) then
  ((app? out4 ([i3] : List Int)).bind fun l12 =>
  (z64 (i3 + 1)).bind fun v13 =>
  some (.inl (v13, l12)))
 else
  ((z64 (i3 + 1)).bind fun v14 =>
  some (.inl (v14, out4)))
noncomputable def ladingref36_Missing.b2 [Fuel] (m1 : GManifest) (have2 : List Int) (i3 : Int) (out4 : List Int) : Option ((Int × List Int) ⊕ (List Int)) :=
 bif (ltZ i3 (m1.2.2.length : Int)) then
  ((loopF (fun x => ladingref36_Missing.b1 m1 have2 i3 x.1 x.2) (false, 0)).bind fun x =>
  ladingref36_Missing.j1 i3 out4 x)
 else
  some (.inr out4)
noncomputable def ladingref36_Missing [Fuel] (m1 : GManifest) (have2 : List Int) : Option (List Int) :=
 loopF (fun x => ladingref36_Missing.b2 m1 have2 x.1 x.2) (0, [])
/-- lading/ladingref04.Ints -/
noncomputable def ladingref04_Ints.b1 [Fuel] (a1 : List Int) (b2 : List Int) (i3 : Int) : Option ((Int) ⊕ (Bool)) :=
 bif (ltZ i3 (a1.length : Int)) then
  ((idx a1 i3).bind fun v4 =>
  (idx b2 i3).bind fun v5 =>
  bif (!eqZ v4 v5) then
   some (.inr false)
  else
   ((z64 (i3 + 1)).bind fun v6 =>
   some (.inl v6)))
 else
  some (.inr true)
noncomputable def ladingref04_Ints [Fuel] (a1 : List Int) (b2 : List Int) : Option Bool :=
 bif (!eqZ (a1.length : Int) (b2.length : Int)) then
  some false
 else
  (loopF (fun x => ladingref04_Ints.b1 a1 b2 x) 0)
/-- lading/ladinglaw36.ChunkTells -/
noncomputable def ladinglaw36_ChunkTells.j1 [Fuel] (contents1 : List Bs) (p2 : Bs) (p4 : GManifest) (p5 : List Bs) (p6 : List Int) (p7 : Int) (s8 : Bool) (v22 : Bool) : Option Bool :=
 (chunk_Join contents1 p4 p5).bind fun j23 =>
 (ladingref36_Join contents1 p4 p5).bind fun j24 =>
 bif s8 then
  (bif v22 then
   (bif (decide (j23.1 = j24.1)) then
    (bif (eqZ j23.2 j24.2) then
     ((chunk_Check contents1 p4 p7 p2).bind fun c25 =>
     (ladingref36_Check contents1 p4 p7 p2).bind fun c26 =>
     bif (c25 == c26) then
      ((chunk_Missing p4 p6).bind fun m27 =>
      (ladingref36_Missing p4 p6).bind fun m28 =>
      (ladingref04_Ints m27 m28).bind fun i29 =>
      some i29)
     else
      some false)
    else
     some false)
   else
    some false)
  else
   some false)
 else
  some false
noncomputable def ladinglaw36_ChunkTells.j2 [Fuel] (contents1 : List Bs) (p2 : Bs) (p3 : Int) (p4 : GManifest) (p5 : List Bs) (p6 : List Int) (p7 : Int) (s8 : Bool) (v12 : Bool) : Option Bool :=
 bif v12 then
  some s8
 else
  ((chunk_Of contents1 p2 p3).bind fun o13 =>
  (ladingref36_Of contents1 p2 p3).bind fun o14 =>
  (bif (eqZ o13.2.2 o14.2.2) then
   ((ladingref04_Same o13.1 o14.1).bind fun s15 =>
   bif s15 then
    ((ladingref36_Same o13.2.1 o14.2.1).bind fun s16 =>
    bif s16 then
     ((chunk_Cut p2 p3).bind fun c17 =>
     (ladingref36_Cut p2 p3).bind fun c18 =>
     (ladingref04_Same c17 c18).bind fun s19 =>
     bif s19 then
      ((chunk_Right contents1 p4).bind fun r20 =>
      (ladingref36_Right contents1 p4).bind fun r21 =>
      some (r20 == r21))
     else
      some false)
    else
     some false)
   else
    some false)
  else
   some false).bind fun x =>
  ladinglaw36_ChunkTells.j1 contents1 p2 p4 p5 p6 p7 s8 x)
noncomputable def ladinglaw36_ChunkTells [Fuel] (contents1 : List Bs) (p2 : Bs) (p3 : Int) (p4 : GManifest) (p5 : List Bs) (p6 : List Int) (p7 : Int) : Option Bool :=
 (ladinglaw36_small).bind fun s8 =>
 ((ladinglaw36_few contents1 30).bind fun f9 =>
 bif (!f9) then
  some true
 else
  (bif (ltZ 600 (p2.length : Int)) then
   some true
  else
   ((ladinglaw36_light p4).bind fun l10 =>
   bif (!l10) then
    some true
   else
    ((ladinglaw36_few p5 40).bind fun f11 =>
    bif (!f11) then
     some true
    else
     some (ltZ 40 (p6.length : Int)))))).bind fun x =>
 ladinglaw36_ChunkTells.j2 contents1 p2 p3 p4 p5 p6 p7 s8 x
/-- lading/chunk.Missing -/
noncomputable def chunk_Missing_v2.b1 [Fuel] (m1 : GManifest) (have2 : List Int) (v3 : Int) (out4 : List Int) : Option ((Int × List Int) ⊕ (List Int)) :=
 bif (ltZ v3 (m1.2.2.length : Int)) then
  ((idx m1.2.2 v3).bind fun v5 =>
  (slices_Contains_int_int have2 v5).bind fun i6 =>
  bif (!i6) then
   ((app? out4 ([v3] : List Int)).bind fun l7 =>
   (z64 (v3 + 1)).bind fun v8 =>
   some (.inl (v8, l7)))
  else
   ((z64 (v3 + 1)).bind fun v9 =>
   some (.inl (v9, out4))))
 else
  some (.inr out4)
noncomputable def chunk_Missing_v2 [Fuel] (m1 : GManifest) (have2 : List Int) : Option (List Int) :=
 loopF (fun x => chunk_Missing_v2.b1 m1 have2 x.1 x.2) (0, [])
/-- lading/ladinglaw36.ChunkMissing -/
noncomputable def ladinglaw36_ChunkMissing.b1 [Fuel] (m1 : GManifest) (p2 : List Int) (v9 : Int) (v10 : Bool) (v11 : Int) : Option ((Bool × Int) ⊕ (Bool)) :=
 bif (ltZ v11 (p2.length : Int)) then
  (bif v10 then
   ((z64 (v11 + 1)).bind fun v12 =>
   some (.inl (true, v12)))
  else
   ((idx p2 v11).bind fun v13 =>
   (idx m1.2.2 v9).bind fun v14 =>
   (z64 (v11 + 1)).bind fun v15 =>
   some (.inl ((eqZ v13 v14), v15))))
 else
  some (.inr v10)
noncomputable def ladinglaw36_ChunkMissing.j1 [Fuel] (v8 : Int) (v9 : Int) (v19 : Bool) : Option ((Int × Int) ⊕ ((Int) ⊕ (Bool))) :=
 bif v19 then
  some (.inr (.inr false))
 else
  ((z64 (v8 + 1)).bind fun v20 =>
  (z64 (v9 + 1)).bind fun v21 =>
  some (.inl (v20, v21)))
noncomputable def ladinglaw36_ChunkMissing.j2 [Fuel] (m7 : List Int) (v8 : Int) (v9 : Int) (v16 : Bool) : Option ((Int × Int) ⊕ ((Int) ⊕ (Bool))) :=
 bif v16 then
  ((z64 (v9 + 1)).bind fun v17 =>
  some (.inl (v8, v17)))
 else
  ((bif (leZ (m7.length : Int) v8) then
   some true
  else
   ((idx m7 v8).bind fun v18 =>
   some (!eqZ v18 v9))).bind fun x =>
  ladinglaw36_ChunkMissing.j1 v8 v9 x)
noncomputable def ladinglaw36_ChunkMissing.b2 [Fuel] (m1 : GManifest) (p2 : List Int) (m7 : List Int) (v8 : Int) (v9 : Int) : Option ((Int × Int) ⊕ ((Int) ⊕ (Bool))) :=
 bif (ltZ v9 (m1.2.2.length : Int)) then
  ((loopF (fun x => ladinglaw36_ChunkMissing.b1 m1 p2 v9 x.1 x.2) (false, 0)).bind fun x =>
  ladinglaw36_ChunkMissing.j2 m7 v8 v9 x)
 else
  some (.inr (.inl v8))
noncomputable def ladinglaw36_ChunkMissing.j3 [Fuel] (m1 : GManifest) (m7 : List Int) (v24 : Int) (v25 : List Int) (v26 : Bool) : Option ((Int × List Int) ⊕ (List Int)) :=
 bif v26 then
  ((idx m7 v24).bind fun v27 =>
  (idx m1.2.2 v27).bind fun v28 =>
  (app? v25 ([v28] : List Int)).bind fun l29 =>
  (z64 (v24 + 1)).bind fun v30 =>
  some (.inl (v30, l29)))
 else
  some (.inr v25)
noncomputable def ladinglaw36_ChunkMissing.b3 [Fuel] (m1 : GManifest) (m7 : List Int) (v22 : Int) (v24 : Int) (v25 : List Int) : Option ((Int × List Int) ⊕ (List Int)) :=
 (bif (ltZ v24 (m7.length : Int)) then
  some (eqZ v22 (m7.length : Int))
 else
  some false).bind fun x =>
 ladinglaw36_ChunkMissing.j3 m1 m7 v24 v25 x
noncomputable def ladinglaw36_ChunkMissing.j4 [Fuel] (m1 : GManifest) (p2 : List Int) (p3 : Int) (s4 : Bool) (m7 : List Int) (v22 : Int) (v31 : List Int) : Option Bool :=
 (app? ([] : List Int) p2).bind fun l32 =>
 (app? l32 ([p3] : List Int)).bind fun l33 =>
 (chunk_Missing_v2 m1 l33).bind fun v34 =>
 bif s4 then
  (bif (eqZ v22 (m7.length : Int)) then
   (bif (leZ (v34.length : Int) (m7.length : Int)) then
    ((chunk_Missing_v2 m1 v31).bind fun v35 =>
    some (eqZ (v35.length : Int) 0))
   else
    some false)
  else
   some false)
 else
  some false
noncomputable def ladinglaw36_ChunkMissing.j5 [Fuel] (m1 : GManifest) (p2 : List Int) (p3 : Int) (s4 : Bool) (m7 : List Int) (v22 : Int) : Option Bool :=
 (app? ([] : List Int) p2).bind fun l23 =>
 (loopF (fun x => ladinglaw36_ChunkMissing.b3 m1 m7 v22 x.1 x.2) (0, l23)).bind fun x =>
 ladinglaw36_ChunkMissing.j4 m1 p2 p3 s4 m7 v22 x
noncomputable def ladinglaw36_ChunkMissing.j6 [Fuel] (m1 : GManifest) (p2 : List Int) (p3 : Int) (s4 : Bool) (v6 : Bool) : Option Bool :=
 bif v6 then
  some s4
 else
  ((chunk_Missing m1 p2).bind fun m7 =>
  (loopF (fun x => ladinglaw36_ChunkMissing.b2 m1 p2 m7 x.1 x.2) (0, 0)).bind fun x => match x with
  | .inl x =>
   ladinglaw36_ChunkMissing.j5 m1 p2 p3 s4 m7 x
  | .inr r => some r)
noncomputable def ladinglaw36_ChunkMissing [Fuel] (m1 : GManifest) (p2 : List Int) (p3 : Int) : Option Bool :=
 (ladinglaw36_small).bind fun s4 =>
 ((ladinglaw36_light m1).bind fun l5 =>
 bif (!l5) then
  some true
 else
  some (ltZ 40 (p2.length : Int))).bind fun x =>
 ladinglaw36_ChunkMissing.j6 m1 p2 p3 s4 x
/-- lading/content.Texts -/
noncomputable def content_Texts.b1 [Fuel] (list1 : List Bs) (prints2 : List Int) (v3 : Int) (out4 : List Bs) : Option ((Int × List Bs) ⊕ ((List Bs) × Int)) :=
 bif (ltZ v3 (prints2.length : Int)) then
  ((idx prints2 v3).bind fun v5 =>
  (content_Text list1 v5).bind fun t6 =>
  bif (!t6.2) then
   some (.inr ([], 4))
  else
   ((app? out4 ([t6.1] : List Bs)).bind fun l7 =>
   (z64 (v3 + 1)).bind fun v8 =>
   some (.inl (v8, l7))))
 else
  some (.inr (out4, 0))
noncomputable def content_Texts [Fuel] (list1 : List Bs) (prints2 : List Int) : Option ((List Bs) × Int) :=
 loopF (fun x => content_Texts.b1 list1 prints2 x.1 x.2) (0, [])
/-- slices.Clone[[]string,string] -/
noncomputable def slices_Clone_string_string_v2 [Fuel] (s1 : List Bs) : Option (List Bs) :=
 bothN s1 (
  some []) (
  (app? ([] : List Bs) s1).bind fun l2 =>
  some l2)
/-- lading/content.Add -/
noncomputable def content_Add_v2 [Fuel] (list1 : List Bs) (s2 : Bs) : Option ((List Bs) × Int × Int) :=
 (content_Right list1).bind fun r3 =>
 bif (!r3) then
  some ([], 0, 1)
 else
  ((content_Print list1 s2).bind fun p4 =>
  bif (leZ 0 p4) then
   ((slices_Clone_string_string_v2 list1).bind fun v5 =>
   some (v5, p4, 0))
  else
   ((content_size list1).bind fun s6 =>
   (z64 (s6 + (s2.length : Int))).bind fun v7 =>
   bif (ltZ 1048576 v7) then
    some ([], 0, 6)
   else
    ((slices_Clone_string_string list1).bind fun s8 =>
    (app? s8 ([s2] : List Bs)).bind fun l9 =>
    some (l9, (list1.length : Int), 0))))
/-- lading/ladinglaw36.ChunkOf -/
noncomputable def ladinglaw36_ChunkOf.j1 [Fuel] (p4 : Bs) (s5 : Bool) (o8 : (List Bs) × GManifest × Int) (v21 : Bool) : Option Bool :=
 bif v21 then
  some false
 else
  ((content_Add_v2 o8.1 p4).bind fun v22 =>
  bif s5 then
   (bif (!eqZ v22.2.2 0) then
    ((chunk_Missing o8.2.1 o8.2.1.2.2).bind fun m23 =>
    some (eqZ (m23.length : Int) 0))
   else
    ((chunk_Right v22.1 o8.2.1).bind fun r24 =>
    bif r24 then
     ((chunk_Missing o8.2.1 o8.2.1.2.2).bind fun m25 =>
     some (eqZ (m25.length : Int) 0))
    else
     some false))
  else
   some false)
noncomputable def ladinglaw36_ChunkOf.j2 [Fuel] (p2 : Bs) (p3 : Int) (p4 : Bs) (s5 : Bool) (o8 : (List Bs) × GManifest × Int) (v14 : Bool) : Option Bool :=
 bif v14 then
  some false
 else
  ((content_Texts o8.1 o8.2.1.2.2).bind fun t15 =>
  (chunk_Join o8.1 o8.2.1 t15.1).bind fun j16 =>
  (chunk_Of o8.1 p2 p3).bind fun o17 =>
  (bif (!eqZ t15.2 0) then
   some true
  else
   (bif (!eqZ j16.2 0) then
    some true
   else
    (bif (!decide (j16.1 = p2)) then
     some true
    else
     (bif (!eqZ o17.2.2 0) then
      some true
     else
      ((ladingref04_Same o17.1 o8.1).bind fun s18 =>
      bif (!s18) then
       some true
      else
       ((ladingref36_Same o8.2.1 o17.2.1).bind fun s19 =>
       bif (!s19) then
        some true
       else
        ((content_Print o8.1 p2).bind fun p20 =>
        some (!eqZ p20 o8.2.1.1)))))))).bind fun x =>
  ladinglaw36_ChunkOf.j1 p4 s5 o8 x)
noncomputable def ladinglaw36_ChunkOf.j3 [Fuel] (contents1 : List Bs) (p2 : Bs) (p3 : Int) (p4 : Bs) (s5 : Bool) (v7 : Bool) : Option Bool :=
 bif v7 then
  some s5
 else
  ((chunk_Of contents1 p2 p3).bind fun o8 =>
  bif (!eqZ o8.2.2 0) then
   (bif s5 then
    (bif (eqZ (o8.1.length : Int) 0) then
     ((ladingref36_Same o8.2.1 (0, 0, [])).bind fun s9 =>
     some s9)
    else
     some false)
   else
    some false)
  else
   ((bif (ltZ (o8.1.length : Int) (contents1.length : Int)) then
    some true
   else
    ((cut o8.1 0 (contents1.length : Int)).bind fun l10 =>
    (ladingref04_Same l10 contents1).bind fun s11 =>
    bif (!s11) then
     some true
    else
     ((content_Right o8.1).bind fun r12 =>
     bif (!r12) then
      some true
     else
      ((chunk_Right o8.1 o8.2.1).bind fun r13 =>
      some (!r13))))).bind fun x =>
   ladinglaw36_ChunkOf.j2 p2 p3 p4 s5 o8 x))
noncomputable def ladinglaw36_ChunkOf [Fuel] (contents1 : List Bs) (p2 : Bs) (p3 : Int) (p4 : Bs) : Option Bool :=
 (ladinglaw36_small).bind fun s5 =>
 ((ladinglaw36_few contents1 30).bind fun f6 =>
 bif (!f6) then
  some true
 else
  (bif (ltZ 600 (p2.length : Int)) then
   some true
  else
   some (ltZ 3000 (p4.length : Int)))).bind fun x =>
 ladinglaw36_ChunkOf.j3 contents1 p2 p3 p4 s5 x
end Go.Proofs.Ytnjmhnogpgnbmaa
