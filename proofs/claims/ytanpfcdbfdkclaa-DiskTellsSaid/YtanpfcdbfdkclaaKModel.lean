/-
  The functions as plain Lean.
-/
import Derived.Test.YtanpfcdbfdkclaaD2
import Derived.Test.YtanpfcdbfdkclaaE3
import Derived.Test.YtanpfcdbfdkclaaDm
import Derived.Test.YtanpfcdbfdkclaaProg
import Derived.KernelRfl
namespace Go.Proofs.Ytanpfcdbfdkclaa
open Go.Lad
set_option linter.unusedVariables false
/-- Do, F, N, S, Keep -/
abbrev GAct : Type := Int × Int × Int × Bs × List Int
/-- now, last -/
abbrev GFile : Type := Bs × Bs
/-- file, number -/
abbrev GSector : Type := Int × Int
/-- Number, Now, Last -/
abbrev GFilex : Type := Int × GFile
/-- lading/disk.New -/
noncomputable def disk_New [Fuel] : Option (Int × Bool × Int × (List Int) × (List (Int × GFile)) × (List GSector) × List (GSector × Bool)) :=
 some (0, false, 0, [], ([] : List (Int × GFile)), [], ([] : List ((Int × Int) × Bool)))
/-- (*lading/disk.Disk).ends -/
noncomputable def disk_Disk_ends.j1 [Fuel] (d1 : Int) (d2 : Bool) (d3 : Int) (d4 : List Int) (p5 : List (Int × GFile)) (p6 : List GSector) (p7 : List (GSector × Bool)) (v8 : Bool) : Option (Bool × Int × Bool × Int × (List Int) × (List (Int × GFile)) × (List GSector) × List (GSector × Bool)) :=
 bif v8 then
  some (false, d1, d2, d3, d4, p5, p6, p7)
 else
  ((z64 (d3 - 1)).bind fun v9 =>
  some ((eqZ v9 0), d1, d2, v9, d4, p5, p6, p7))
noncomputable def disk_Disk_ends [Fuel] (d1 : Int) (d2 : Bool) (d3 : Int) (d4 : List Int) (p5 : List (Int × GFile)) (p6 : List GSector) (p7 : List (GSector × Bool)) : Option (Bool × Int × Bool × Int × (List Int) × (List (Int × GFile)) × (List GSector) × List (GSector × Bool)) :=
 (bif d2 then
  some true
 else
  some (eqZ d3 0)).bind fun x =>
 disk_Disk_ends.j1 d1 d2 d3 d4 p5 p6 p7 x
/-- (*lading/disk.Disk).may -/
noncomputable def disk_Disk_may.j1 [Fuel] (v9 : Bool) : Option Int :=
 bif v9 then
  some 1
 else
  some 0
noncomputable def disk_Disk_may [Fuel] (f1 : Int) (d2 : Int) (d3 : Bool) (d4 : Int) (d5 : List Int) (p6 : List (Int × GFile)) (p7 : List GSector) (p8 : List (GSector × Bool)) : Option Int :=
 bif d3 then
  some 8
 else
  ((bif (ltZ f1 0) then
   some true
  else
   some (leZ 16 f1)).bind fun x =>
  disk_Disk_may.j1 x)
/-- lading/disk.put -/
noncomputable def disk_put [Fuel] (s1 : Bs) (at2 : Int) (t3 : Bs) : Option Bs :=
 bif (decide (t3 = ([] : Bs))) then
  some s1
 else
  ((z64 (at2 + (t3.length : Int))).bind fun v4 =>
  (msNeed (max (s1.length : Int) v4) (max (s1.length : Int) v4)).bind fun _5 =>
  (cpNeed (repT (max (s1.length : Int) v4) (0 : Int)).length 0 ((repT (max (s1.length : Int) v4) (0 : Int)).length : Int)).bind fun _6 =>
  (cut (cpB (repT (max (s1.length : Int) v4) (0 : Int)) 0 ((repT (max (s1.length : Int) v4) (0 : Int)).length : Int) s1) at2 ((cpB (repT (max (s1.length : Int) v4) (0 : Int)) 0 ((repT (max (s1.length : Int) v4) (0 : Int)).length : Int) s1).length : Int)).bind fun _7 =>
  (cpNeed (cpB (repT (max (s1.length : Int) v4) (0 : Int)) 0 ((repT (max (s1.length : Int) v4) (0 : Int)).length : Int) s1).length at2 ((cpB (repT (max (s1.length : Int) v4) (0 : Int)) 0 ((repT (max (s1.length : Int) v4) (0 : Int)).length : Int) s1).length : Int)).bind fun _8 =>
  (need ((u8sT (cpB (cpB (repT (max (s1.length : Int) v4) (0 : Int)) 0 ((repT (max (s1.length : Int) v4) (0 : Int)).length : Int) s1) at2 ((cpB (repT (max (s1.length : Int) v4) (0 : Int)) 0 ((repT (max (s1.length : Int) v4) (0 : Int)).length : Int) s1).length : Int) t3)).length ≤ 9223372036854775807)).bind fun _9 =>
  some (u8sT (cpB (cpB (repT (max (s1.length : Int) v4) (0 : Int)) 0 ((repT (max (s1.length : Int) v4) (0 : Int)).length : Int) s1) at2 ((cpB (repT (max (s1.length : Int) v4) (0 : Int)) 0 ((repT (max (s1.length : Int) v4) (0 : Int)).length : Int) s1).length : Int) t3)))
/-- (*lading/disk.Disk).write -/
noncomputable def disk_Disk_write.b1 [Fuel] (p1 : Int) (p2 : Int) (p3 : Bs) (v16 : Int) (d17 : Int) (d18 : Bool) (d19 : Int) (d20 : List Int) (v21 : List (Int × GFile)) (v22 : List GSector) (v23 : List (GSector × Bool)) : Option ((Int × Int × Bool × Int × (List Int) × (List (Int × GFile)) × (List GSector) × List (GSector × Bool)) ⊕ (Int × Int × Bool × Int × (List Int) × (List GSector) × (List (Int × GFile)) × List (GSector × Bool))) :=
 (z64 (p2 + (p3.length : Int))).bind fun v24 =>
 (z64 (v24 - 1)).bind fun v25 =>
 (quoZ .i64 v25 64).bind fun v26 =>
 bif (leZ v16 v26) then
  (bif (!((lookM v23 (p1, v16)).getD false)) then
   ((app? v22 ([(p1, v16)] : List GSector)).bind fun l27 =>
   (z64 (v16 + 1)).bind fun v28 =>
   some (.inl (v28, d17, d18, d19, d20, v21, l27, (putM (putM v23 (p1, v16) ((lookM v23 (p1, v16)).getD false)) (p1, v16) true))))
  else
   ((z64 (v16 + 1)).bind fun v29 =>
   some (.inl (v29, d17, d18, d19, d20, v21, v22, v23))))
 else
  some (.inr (0, d17, d18, d19, d20, v22, v21, v23))
noncomputable def disk_Disk_write.j1 [Fuel] (p1 : Int) (p2 : Int) (p3 : Bs) (d4 : Int) (d5 : Bool) (d6 : Int) (d7 : List Int) (p8 : List (Int × GFile)) (p9 : List GSector) (p10 : List (GSector × Bool)) (v13 : Bool) : Option (Int × Int × Bool × Int × (List Int) × (List GSector) × (List (Int × GFile)) × List (GSector × Bool)) :=
 bif v13 then
  some (6, d4, d5, d6, d7, p9, p8, p10)
 else
  (bif (decide (p3 = ([] : Bs))) then
   some (0, d4, d5, d6, d7, p9, p8, p10)
  else
   ((disk_put (((lookM p8 p1).getD (([] : Bs), ([] : Bs))).1) p2 p3).bind fun p14 =>
   (quoZ .i64 p2 64).bind fun v15 =>
   loopF (fun x => disk_Disk_write.b1 p1 p2 p3 x.1 x.2.1 x.2.2.1 x.2.2.2.1 x.2.2.2.2.1 x.2.2.2.2.2.1 x.2.2.2.2.2.2.1 x.2.2.2.2.2.2.2) (v15, d4, d5, d6, d7, (putM p8 p1 (p14, ((lookM p8 p1).getD (([] : Bs), ([] : Bs))).2)), p9, p10)))
noncomputable def disk_Disk_write [Fuel] (p1 : Int) (p2 : Int) (p3 : Bs) (d4 : Int) (d5 : Bool) (d6 : Int) (d7 : List Int) (p8 : List (Int × GFile)) (p9 : List GSector) (p10 : List (GSector × Bool)) : Option (Int × Int × Bool × Int × (List Int) × (List GSector) × (List (Int × GFile)) × List (GSector × Bool)) :=
 (disk_Disk_may p1 d4 d5 d6 d7 p8 p9 p10).bind fun m11 =>
 bif (!eqZ m11 0) then
  some (m11, d4, d5, d6, d7, p9, p8, p10)
 else
  (bif (ltZ p2 0) then
   some (1, d4, d5, d6, d7, p9, p8, p10)
  else
   ((bif (ltZ 16777216 p2) then
    some true
   else
    ((z64 ((16777216 : Int) - p2)).bind fun v12 =>
    some (ltZ v12 (p3.length : Int)))).bind fun x =>
   disk_Disk_write.j1 p1 p2 p3 d4 d5 d6 d7 p8 p9 p10 x))
/-- (*lading/disk.Disk).Crash -/
noncomputable def disk_Disk_Crash.j1 [Fuel] (v9 : Int) (d10 : Int) (d11 : Bool) (d12 : Int) (d13 : List Int) (v14 : List GSector) (v15 : List (Int × GFile)) (v16 : List (GSector × Bool)) (v18 : GSector) (v19 : Int) (v22 : Bool) : Option ((Int × Int × Bool × Int × (List Int) × (List GSector) × (List (Int × GFile)) × List (GSector × Bool)) ⊕ (Int × Bool × Int × (List Int) × (List (Int × GFile)) × (List GSector) × List (GSector × Bool))) :=
 bif v22 then
  ((z64 (v9 + 1)).bind fun v23 =>
  some (.inl (v23, d10, d11, d12, d13, v14, v15, v16)))
 else
  ((z64 (v19 + 64)).bind fun v24 =>
  (cut (((lookM v15 v18.1).getD (([] : Bs), ([] : Bs))).1) v19 (min v24 ((((lookM v15 v18.1).getD (([] : Bs), ([] : Bs))).1).length : Int))).bind fun s25 =>
  (disk_put (((lookM v15 v18.1).getD (([] : Bs), ([] : Bs))).2) v19 s25).bind fun p26 =>
  (z64 (v9 + 1)).bind fun v27 =>
  some (.inl (v27, d10, d11, d12, d13, v14, (putM v15 v18.1 (((lookM v15 v18.1).getD (([] : Bs), ([] : Bs))).1, p26)), v16)))
noncomputable def disk_Disk_Crash.b1 [Fuel] (p1 : List Int) (p7 : List GSector) (v9 : Int) (d10 : Int) (d11 : Bool) (d12 : Int) (d13 : List Int) (v14 : List GSector) (v15 : List (Int × GFile)) (v16 : List (GSector × Bool)) : Option ((Int × Int × Bool × Int × (List Int) × (List GSector) × (List (Int × GFile)) × List (GSector × Bool)) ⊕ (Int × Bool × Int × (List Int) × (List (Int × GFile)) × (List GSector) × List (GSector × Bool))) :=
 bif (ltZ v9 (p7.length : Int)) then
  ((idx v14 v9).bind fun _17 =>
  (idx v14 v9).bind fun v18 =>
  (z64 (v18.2 * 64)).bind fun v19 =>
  (bif (eqZ (p1.length : Int) 0) then
   some true
  else
   ((remZ .i64 v9 (p1.length : Int)).bind fun v20 =>
   (idx p1 v20).bind fun v21 =>
   bif (eqZ (andI .i64 v21 1) 0) then
    some true
   else
    some (leZ ((((lookM v15 v18.1).getD (([] : Bs), ([] : Bs))).1).length : Int) v19))).bind fun x =>
  disk_Disk_Crash.j1 v9 d10 d11 d12 d13 v14 v15 v16 v18 v19 x)
 else
  some (.inr (d10, d11, d12, d13, v15, v14, v16))
noncomputable def disk_Disk_Crash.j2 [Fuel] (d28 : Int) (d29 : Bool) (d30 : Int) (d31 : List Int) (v32 : List (Int × GFile)) (v33 : List GSector) (v34 : List (GSector × Bool)) : Option (Int × Bool × Int × (List Int) × (List GSector) × (List (GSector × Bool)) × List (Int × GFile)) :=
 some (d28, d29, d30, d31, [], ([] : List ((Int × Int) × Bool)), (lastsF v32))
noncomputable def disk_Disk_Crash [Fuel] (p1 : List Int) (d2 : Int) (d3 : Bool) (d4 : Int) (d5 : List Int) (p6 : List (Int × GFile)) (p7 : List GSector) (p8 : List (GSector × Bool)) : Option (Int × Bool × Int × (List Int) × (List GSector) × (List (GSector × Bool)) × List (Int × GFile)) :=
 bif d3 then
  some (d2, d3, d4, d5, p7, p8, p6)
 else
  ((loopF (fun x => disk_Disk_Crash.b1 p1 p7 x.1 x.2.1 x.2.2.1 x.2.2.2.1 x.2.2.2.2.1 x.2.2.2.2.2.1 x.2.2.2.2.2.2.1 x.2.2.2.2.2.2.2) (0, d2, true, 0, d5, p7, p6, p8)).bind fun x =>
  disk_Disk_Crash.j2 x.1 x.2.1 x.2.2.1 x.2.2.2.1 x.2.2.2.2.1 x.2.2.2.2.2.1 x.2.2.2.2.2.2)
/-- (*lading/disk.Disk).Write -/
noncomputable def disk_Disk_Write [Fuel] (f1 : Int) (at2 : Int) (s3 : Bs) (d4 : Int) (d5 : Bool) (d6 : Int) (d7 : List Int) (p8 : List (Int × GFile)) (p9 : List GSector) (p10 : List (GSector × Bool)) : Option (Int × Int × Bool × Int × (List Int) × (List GSector) × (List (GSector × Bool)) × List (Int × GFile)) :=
 (disk_Disk_ends d4 d5 d6 d7 p8 p9 p10).bind fun e11 =>
 (disk_Disk_write f1 at2 s3 e11.2.1 e11.2.2.1 e11.2.2.2.1 e11.2.2.2.2.1 e11.2.2.2.2.2.1 e11.2.2.2.2.2.2.1 e11.2.2.2.2.2.2.2).bind fun w12 =>
 bif e11.1 then
  ((disk_Disk_Crash w12.2.2.2.2.1 w12.2.1 w12.2.2.1 w12.2.2.2.1 w12.2.2.2.2.1 w12.2.2.2.2.2.2.1 w12.2.2.2.2.2.1 w12.2.2.2.2.2.2.2).bind fun c13 =>
  some (8, c13.1, c13.2.1, c13.2.2.1, c13.2.2.2.1, c13.2.2.2.2.1, c13.2.2.2.2.2.1, c13.2.2.2.2.2.2))
 else
  some (w12.1, w12.2.1, w12.2.2.1, w12.2.2.2.1, w12.2.2.2.2.1, w12.2.2.2.2.2.1, w12.2.2.2.2.2.2.2, w12.2.2.2.2.2.2.1)
/-- (*lading/disk.Disk).settle$1 -/
noncomputable def disk_Disk_settle_1 [Fuel] (p1 : GSector) (p2 : Int) : Option Bool :=
 some (eqZ p1.1 p2)
/-- slices.IndexFunc[[]lading/disk.sector,lading/disk.sector] -/
noncomputable def slices_IndexFunc_disk_sector_disk_sector.b1 [Fuel] (s1 : List GSector) (p2 : Int) (v3 : Int) : Option ((Int) ⊕ (Int)) :=
 bif (ltZ v3 (s1.length : Int)) then
  ((idx s1 v3).bind fun v4 =>
  (disk_Disk_settle_1 v4 p2).bind fun v'5 =>
  bif v'5 then
   some (.inr v3)
  else
   ((z64 (v3 + 1)).bind fun v6 =>
   some (.inl v6)))
 else
  some (.inr (-1))
noncomputable def slices_IndexFunc_disk_sector_disk_sector [Fuel] (s1 : List GSector) (p2 : Int) : Option Int :=
 loopF (fun x => slices_IndexFunc_disk_sector_disk_sector.b1 s1 p2 x) 0
/-- slices.DeleteFunc[[]lading/disk.sector,lading/disk.sector] -/
noncomputable def slices_DeleteFunc_disk_sector_disk_sector.b1 [Fuel] (p1 : Int) (i5 : Int) (j6 : Int) (s7 : List GSector) : Option ((Int × Int × List GSector) ⊕ (List GSector)) :=
 bif (ltZ j6 (s7.length : Int)) then
  ((idx s7 j6).bind fun _8 =>
  (idx s7 j6).bind fun v9 =>
  (disk_Disk_settle_1 v9 p1).bind fun v'10 =>
  bif (!v'10) then
   ((idx s7 i5).bind fun _11 =>
   (idx s7 i5).bind fun v12 =>
   (z64 (i5 + 1)).bind fun v13 =>
   (z64 (j6 + 1)).bind fun v14 =>
   some (.inl (v13, v14, (s7.set i5.toNat v9))))
  else
   ((z64 (j6 + 1)).bind fun v15 =>
   some (.inl (i5, v15, s7))))
 else
  (Option.map Sum.inr ((cut s7 i5 (s7.length : Int)).bind fun _16 =>
  (need (i5.toNat ≤ (s7.length : Int).toNat ∧ (s7.length : Int).toNat ≤ s7.length)).bind fun _17 =>
  (cut (clrT s7 i5 (s7.length : Int) (0, 0)) 0 i5).bind fun l18 =>
  some l18))
noncomputable def slices_DeleteFunc_disk_sector_disk_sector [Fuel] (p1 : Int) (s2 : List GSector) : Option (List GSector) :=
 (slices_IndexFunc_disk_sector_disk_sector s2 p1).bind fun s3 =>
 bif (eqZ s3 (-1)) then
  some s2
 else
  ((z64 (s3 + 1)).bind fun v4 =>
  loopF (fun x => slices_DeleteFunc_disk_sector_disk_sector.b1 p1 x.1 x.2.1 x.2.2) (s3, v4, s2))
/-- (*lading/disk.Disk).settle$2 -/
noncomputable def disk_Disk_settle_2 [Fuel] (p1 : Int) (p2 : Int) (p3 : Bool) (p4 : Int) : Option Bool :=
 some (eqZ p1 p4)
/-- maps.DeleteFunc[map[lading/disk.sector]bool,lading/disk.sector,bool] -/
noncomputable def maps_DeleteFunc [Fuel] (f0 : Int) (m : List (GSector × Bool)) : Option (List (GSector × Bool)) := delM (fun x y => disk_Disk_settle_2 x.1 x.2 y f0) m
/-- (*lading/disk.Disk).settle -/
noncomputable def disk_Disk_settle [Fuel] (f1 : Int) (s2 : Bs) (d3 : Int) (d4 : Bool) (d5 : Int) (d6 : List Int) (p7 : List (Int × GFile)) (p8 : List GSector) (p9 : List (GSector × Bool)) : Option (Int × Bool × Int × (List Int) × (List GSector) × (List (Int × GFile)) × List (GSector × Bool)) :=
 (slices_DeleteFunc_disk_sector_disk_sector f1 p8).bind fun s10 =>
 (maps_DeleteFunc f1 p9).bind fun d11 =>
 some (d3, d4, d5, d6, s10, (putM p7 f1 (s2, s2)), d11)
/-- (*lading/disk.Disk).Sync -/
noncomputable def disk_Disk_Sync.j1 [Fuel] (f1 : Int) (d11 : Int) (d12 : Bool) (d13 : Int) (d14 : List Int) (v15 : List (Int × GFile)) (v16 : List GSector) (v17 : List (GSector × Bool)) : Option (Int × Int × Bool × Int × (List Int) × (List GSector) × (List (GSector × Bool)) × List (Int × GFile)) :=
 (disk_Disk_may f1 d11 d12 d13 d14 v15 v16 v17).bind fun m18 =>
 bif (!eqZ m18 0) then
  some (m18, d11, d12, d13, d14, v16, v17, v15)
 else
  (bif (ltZ 0 d11) then
   ((z64 (d11 - 1)).bind fun v19 =>
   some (9, v19, d12, d13, d14, v16, v17, v15))
  else
   ((disk_Disk_settle f1 (((lookM v15 f1).getD (([] : Bs), ([] : Bs))).1) d11 d12 d13 d14 v15 v16 v17).bind fun s20 =>
   some (0, s20.1, s20.2.1, s20.2.2.1, s20.2.2.2.1, s20.2.2.2.2.1, s20.2.2.2.2.2.2, s20.2.2.2.2.2.1)))
noncomputable def disk_Disk_Sync [Fuel] (f1 : Int) (d2 : Int) (d3 : Bool) (d4 : Int) (d5 : List Int) (p6 : List (Int × GFile)) (p7 : List GSector) (p8 : List (GSector × Bool)) : Option (Int × Int × Bool × Int × (List Int) × (List GSector) × (List (GSector × Bool)) × List (Int × GFile)) :=
 ((disk_Disk_ends d2 d3 d4 d5 p6 p7 p8).bind fun e9 =>
 bif e9.1 then
  ((disk_Disk_Crash e9.2.2.2.2.1 e9.2.1 e9.2.2.1 e9.2.2.2.1 e9.2.2.2.2.1 e9.2.2.2.2.2.1 e9.2.2.2.2.2.2.1 e9.2.2.2.2.2.2.2).bind fun c10 =>
  some (c10.1, c10.2.1, c10.2.2.1, c10.2.2.2.1, c10.2.2.2.2.2.2, c10.2.2.2.2.1, c10.2.2.2.2.2.1))
 else
  some (e9.2.1, e9.2.2.1, e9.2.2.2.1, e9.2.2.2.2.1, e9.2.2.2.2.2.1, e9.2.2.2.2.2.2.1, e9.2.2.2.2.2.2.2)).bind fun x =>
 disk_Disk_Sync.j1 f1 x.1 x.2.1 x.2.2.1 x.2.2.2.1 x.2.2.2.2.1 x.2.2.2.2.2.1 x.2.2.2.2.2.2
/-- maps.Clone[map[int]lading/disk.file,int,lading/disk.file] -/
noncomputable def maps_Clone [Fuel] (m : List GFilex) : Option (List GFilex) := some m
/-- slices.Clone[[]lading/disk.sector,lading/disk.sector] -/
noncomputable def slices_Clone_disk_sector_disk_sector [Fuel] (s1 : List GSector) : Option (List GSector) :=
 bothN s1 (
  some []) (
  (app? ([] : List GSector) s1).bind fun l2 =>
  some l2)
/-- maps.Clone[map[lading/disk.sector]bool,lading/disk.sector,bool] -/
noncomputable def maps_Clone_v2 [Fuel] (m : List (GSector × Bool)) : Option (List (GSector × Bool)) := some m
/-- (*lading/disk.Disk).Copy -/
noncomputable def disk_Disk_Copy [Fuel] (d1 : Int) (d2 : Bool) (d3 : Int) (d4 : List Int) (p5 : List (Int × GFile)) (p6 : List GSector) (p7 : List (GSector × Bool)) : Option (Int × Bool × Int × (List Int) × (List (Int × GFile)) × (List GSector) × List (GSector × Bool)) :=
 (maps_Clone p5).bind fun c8 =>
 (slices_Clone_disk_sector_disk_sector p6).bind fun s9 =>
 (maps_Clone_v2 p7).bind fun v10 =>
 some (d1, d2, d3, d4, c8, s9, v10)
/-- (*lading/disk.Disk).Down -/
noncomputable def disk_Disk_Down [Fuel] (d1 : Int) (d2 : Bool) (d3 : Int) (d4 : List Int) (p5 : List (Int × GFile)) (p6 : List GSector) (p7 : List (GSector × Bool)) : Option Bool :=
 some d2
/-- (*lading/disk.Disk).Read -/
noncomputable def disk_Disk_Read.j1 [Fuel] (f1 : Int) (at2 : Int) (size3 : Int) (p8 : List (Int × GFile)) (v12 : Bool) : Option (Bs × Int) :=
 bif v12 then
  some (([] : Bs), 1)
 else
  ((cut (((lookM p8 f1).getD (([] : Bs), ([] : Bs))).1) (min at2 ((((lookM p8 f1).getD (([] : Bs), ([] : Bs))).1).length : Int)) ((((lookM p8 f1).getD (([] : Bs), ([] : Bs))).1).length : Int)).bind fun s13 =>
  (cut s13 0 (min size3 (s13.length : Int))).bind fun s14 =>
  some (s14, 0))
noncomputable def disk_Disk_Read [Fuel] (f1 : Int) (at2 : Int) (size3 : Int) (d4 : Int) (d5 : Bool) (d6 : Int) (d7 : List Int) (p8 : List (Int × GFile)) (p9 : List GSector) (p10 : List (GSector × Bool)) : Option (Bs × Int) :=
 (disk_Disk_may f1 d4 d5 d6 d7 p8 p9 p10).bind fun m11 =>
 bif (!eqZ m11 0) then
  some (([] : Bs), m11)
 else
  ((bif (ltZ at2 0) then
   some true
  else
   some (ltZ size3 0)).bind fun x =>
  disk_Disk_Read.j1 f1 at2 size3 p8 x)
/-- (*lading/disk.Disk).Start -/
noncomputable def disk_Disk_Start [Fuel] (d1 : Int) (d2 : Bool) (d3 : Int) (d4 : List Int) (p5 : List (Int × GFile)) (p6 : List GSector) (p7 : List (GSector × Bool)) : Option (Int × Bool × Int × (List Int) × (List (Int × GFile)) × (List GSector) × List (GSector × Bool)) :=
 some (d1, false, d3, d4, p5, p6, p7)
/-- (*lading/disk.Disk).Size -/
noncomputable def disk_Disk_Size [Fuel] (f1 : Int) (d2 : Int) (d3 : Bool) (d4 : Int) (d5 : List Int) (p6 : List (Int × GFile)) (p7 : List GSector) (p8 : List (GSector × Bool)) : Option Int :=
 some ((((lookM p6 f1).getD (([] : Bs), ([] : Bs))).1).length : Int)
/-- lading/ladinglaw02.small -/
noncomputable def ladinglaw02_small.j1 [Fuel] (s16 : Int × Bool × Int × (List Int) × (List (Int × GFile)) × (List GSector) × List (GSector × Bool)) (r17 : Bs × Int) (v18 : Bool) : Option Bool :=
 bif v18 then
  (bif (decide (r17.1 = ([0, 0, 0, 0, 99, 100] : Bs))) then
   (bif (eqZ r17.2 0) then
    ((disk_Disk_Size 1 s16.1 s16.2.1 s16.2.2.1 s16.2.2.2.1 s16.2.2.2.2.1 s16.2.2.2.2.2.1 s16.2.2.2.2.2.2).bind fun s19 =>
    bif (eqZ s19 66) then
     ((disk_Disk_Write 16 0 ([] : Bs) s16.1 s16.2.1 s16.2.2.1 s16.2.2.2.1 s16.2.2.2.2.1 s16.2.2.2.2.2.1 s16.2.2.2.2.2.2).bind fun w20 =>
     bif (eqZ w20.1 1) then
      ((disk_Disk_Write 1 16777216 ([97] : Bs) w20.2.1 w20.2.2.1 w20.2.2.2.1 w20.2.2.2.2.1 w20.2.2.2.2.2.2.2 w20.2.2.2.2.2.1 w20.2.2.2.2.2.2.1).bind fun w21 =>
      some (eqZ w21.1 6))
     else
      some false)
    else
     some false)
   else
    some false)
  else
   some false)
 else
  some false
noncomputable def ladinglaw02_small [Fuel] : Option Bool :=
 (disk_New).bind fun n1 =>
 (disk_Disk_Write 0 0 ([97, 98, 99] : Bs) n1.1 n1.2.1 n1.2.2.1 n1.2.2.2.1 n1.2.2.2.2.1 n1.2.2.2.2.2.1 n1.2.2.2.2.2.2).bind fun w2 =>
 (disk_Disk_Sync 0 w2.2.1 w2.2.2.1 w2.2.2.2.1 w2.2.2.2.2.1 w2.2.2.2.2.2.2.2 w2.2.2.2.2.2.1 w2.2.2.2.2.2.2.1).bind fun s3 =>
 (disk_Disk_Write 0 1 ([88, 89] : Bs) s3.2.1 s3.2.2.1 s3.2.2.2.1 s3.2.2.2.2.1 s3.2.2.2.2.2.2.2 s3.2.2.2.2.2.1 s3.2.2.2.2.2.2.1).bind fun w4 =>
 (disk_Disk_Copy w4.2.1 w4.2.2.1 w4.2.2.2.1 w4.2.2.2.2.1 w4.2.2.2.2.2.2.2 w4.2.2.2.2.2.1 w4.2.2.2.2.2.2.1).bind fun c5 =>
 (disk_Disk_Crash ([1] : List Int) w4.2.1 w4.2.2.1 w4.2.2.2.1 w4.2.2.2.2.1 w4.2.2.2.2.2.2.2 w4.2.2.2.2.2.1 w4.2.2.2.2.2.2.1).bind fun c6 =>
 (disk_Disk_Down c6.1 c6.2.1 c6.2.2.1 c6.2.2.2.1 c6.2.2.2.2.2.2 c6.2.2.2.2.1 c6.2.2.2.2.2.1).bind fun d7 =>
 (disk_Disk_Read 0 0 9 c6.1 c6.2.1 c6.2.2.1 c6.2.2.2.1 c6.2.2.2.2.2.2 c6.2.2.2.2.1 c6.2.2.2.2.2.1).bind fun r8 =>
 (disk_Disk_Start c6.1 c6.2.1 c6.2.2.1 c6.2.2.2.1 c6.2.2.2.2.2.2 c6.2.2.2.2.1 c6.2.2.2.2.2.1).bind fun s9 =>
 (disk_Disk_Read 0 0 9 s9.1 s9.2.1 s9.2.2.1 s9.2.2.2.1 s9.2.2.2.2.1 s9.2.2.2.2.2.1 s9.2.2.2.2.2.2).bind fun r10 =>
 (disk_Disk_Crash ([0] : List Int) c5.1 c5.2.1 c5.2.2.1 c5.2.2.2.1 c5.2.2.2.2.1 c5.2.2.2.2.2.1 c5.2.2.2.2.2.2).bind fun c11 =>
 (disk_Disk_Start c11.1 c11.2.1 c11.2.2.1 c11.2.2.2.1 c11.2.2.2.2.2.2 c11.2.2.2.2.1 c11.2.2.2.2.2.1).bind fun s12 =>
 (disk_Disk_Read 0 1 9 s12.1 s12.2.1 s12.2.2.1 s12.2.2.2.1 s12.2.2.2.2.1 s12.2.2.2.2.2.1 s12.2.2.2.2.2.2).bind fun r13 =>
 (disk_Disk_Write 1 62 ([97, 98, 99, 100] : Bs) s12.1 s12.2.1 s12.2.2.1 s12.2.2.2.1 s12.2.2.2.2.1 s12.2.2.2.2.2.1 s12.2.2.2.2.2.2).bind fun w14 =>
 (disk_Disk_Crash ([0, 1] : List Int) w14.2.1 w14.2.2.1 w14.2.2.2.1 w14.2.2.2.2.1 w14.2.2.2.2.2.2.2 w14.2.2.2.2.2.1 w14.2.2.2.2.2.2.1).bind fun c15 =>
 (disk_Disk_Start c15.1 c15.2.1 c15.2.2.1 c15.2.2.2.1 c15.2.2.2.2.2.2 c15.2.2.2.2.1 c15.2.2.2.2.2.1).bind fun s16 =>
 (disk_Disk_Read 1 60 100 s16.1 s16.2.1 s16.2.2.1 s16.2.2.2.1 s16.2.2.2.2.1 s16.2.2.2.2.2.1 s16.2.2.2.2.2.2).bind fun r17 =>
 (bif (eqZ w2.1 0) then
  (bif (eqZ s3.1 0) then
   (bif d7 then
    (bif (eqZ r8.2 8) then
     (bif (decide (r10.1 = ([97, 88, 89] : Bs))) then
      (bif (eqZ r10.2 0) then
       (bif (decide (r13.1 = ([98, 99] : Bs))) then
        (bif (eqZ r13.2 0) then
         some (eqZ w14.1 0)
        else
         some false)
       else
        some false)
      else
       some false)
     else
      some false)
    else
     some false)
   else
    some false)
  else
   some false)
 else
  some false).bind fun x =>
 ladinglaw02_small.j1 s16 r17 x
/-- lading/ladinglaw02.few -/
noncomputable def ladinglaw02_few.j1 [Fuel] (i2 : Int) (v7 : Bool) : Option ((Int) ⊕ (Bool)) :=
 bif v7 then
  some (.inr false)
 else
  ((z64 (i2 + 1)).bind fun v8 =>
  some (.inl v8))
noncomputable def ladinglaw02_few.b1 [Fuel] (l1 : List GAct) (i2 : Int) : Option ((Int) ⊕ (Bool)) :=
 bif (ltZ i2 (l1.length : Int)) then
  (((idx l1 i2).bind fun v3 =>
  bif (ltZ 300 (v3.2.2.2.1.length : Int)) then
   some true
  else
   ((idx l1 i2).bind fun v4 =>
   bif (ltZ 60 (v4.2.2.2.2.length : Int)) then
    some true
   else
    ((idx l1 i2).bind fun v5 =>
    bif (ltZ 3000 v5.2.2.1) then
     ((idx l1 i2).bind fun v6 =>
     some (ltZ v6.2.2.1 16776916))
    else
     some false))).bind fun x =>
  ladinglaw02_few.j1 i2 x)
 else
  some (.inr (leZ (l1.length : Int) 40))
noncomputable def ladinglaw02_few [Fuel] (l1 : List GAct) : Option Bool :=
 loopF (fun x => ladinglaw02_few.b1 l1 x) 0
/-- lading/ladingref02.New -/
noncomputable def ladingref02_New [Fuel] : Option (Int × Bool × Int × (List Int) × (List GFilex) × List GSector) :=
 some (0, false, 0, [], [], [])
/-- (*lading/disk.Disk).Truncate -/
noncomputable def disk_Disk_Truncate.j1 [Fuel] (f1 : Int) (size2 : Int) (d12 : Int) (d13 : Bool) (d14 : Int) (d15 : List Int) (v16 : List GFilex) (v17 : List GSector) (v18 : List (GSector × Bool)) (v21 : Bool) : Option (Int × Int × Bool × Int × (List Int) × (List GSector) × (List (GSector × Bool)) × List GFilex) :=
 bif v21 then
  some (1, d12, d13, d14, d15, v17, v18, v16)
 else
  ((cut (((lookM v16 f1).getD (([] : Bs), ([] : Bs))).1) 0 size2).bind fun s22 =>
  (disk_Disk_settle f1 s22 d12 d13 d14 d15 v16 v17 v18).bind fun s23 =>
  some (0, s23.1, s23.2.1, s23.2.2.1, s23.2.2.2.1, s23.2.2.2.2.1, s23.2.2.2.2.2.2, s23.2.2.2.2.2.1))
noncomputable def disk_Disk_Truncate.j2 [Fuel] (f1 : Int) (size2 : Int) (d12 : Int) (d13 : Bool) (d14 : Int) (d15 : List Int) (v16 : List GFilex) (v17 : List GSector) (v18 : List (GSector × Bool)) : Option (Int × Int × Bool × Int × (List Int) × (List GSector) × (List (GSector × Bool)) × List GFilex) :=
 (disk_Disk_may f1 d12 d13 d14 d15 v16 v17 v18).bind fun m19 =>
 bif (!eqZ m19 0) then
  some (m19, d12, d13, d14, d15, v17, v18, v16)
 else
  ((bif (ltZ size2 0) then
   some true
  else
   ((disk_Disk_Size f1 d12 d13 d14 d15 v16 v17 v18).bind fun s20 =>
   some (ltZ s20 size2))).bind fun x =>
  disk_Disk_Truncate.j1 f1 size2 d12 d13 d14 d15 v16 v17 v18 x)
noncomputable def disk_Disk_Truncate [Fuel] (f1 : Int) (size2 : Int) (d3 : Int) (d4 : Bool) (d5 : Int) (d6 : List Int) (p7 : List GFilex) (p8 : List GSector) (p9 : List (GSector × Bool)) : Option (Int × Int × Bool × Int × (List Int) × (List GSector) × (List (GSector × Bool)) × List GFilex) :=
 ((disk_Disk_ends d3 d4 d5 d6 p7 p8 p9).bind fun e10 =>
 bif e10.1 then
  ((disk_Disk_Crash e10.2.2.2.2.1 e10.2.1 e10.2.2.1 e10.2.2.2.1 e10.2.2.2.2.1 e10.2.2.2.2.2.1 e10.2.2.2.2.2.2.1 e10.2.2.2.2.2.2.2).bind fun c11 =>
  some (c11.1, c11.2.1, c11.2.2.1, c11.2.2.2.1, c11.2.2.2.2.2.2, c11.2.2.2.2.1, c11.2.2.2.2.2.1))
 else
  some (e10.2.1, e10.2.2.1, e10.2.2.2.1, e10.2.2.2.2.1, e10.2.2.2.2.2.1, e10.2.2.2.2.2.2.1, e10.2.2.2.2.2.2.2)).bind fun x =>
 disk_Disk_Truncate.j2 f1 size2 x.1 x.2.1 x.2.2.1 x.2.2.2.1 x.2.2.2.2.1 x.2.2.2.2.2.1 x.2.2.2.2.2.2
/-- (*lading/disk.Disk).Lose -/
noncomputable def disk_Disk_Lose [Fuel] (n1 : Int) (d2 : Int) (d3 : Bool) (d4 : Int) (d5 : List Int) (p6 : List GFilex) (p7 : List GSector) (p8 : List (GSector × Bool)) : Option (Int × Bool × Int × (List Int) × (List GFilex) × (List GSector) × List (GSector × Bool)) :=
 some ((max n1 0), d3, d4, d5, p6, p7, p8)
/-- slices.Clone[[]int,int] -/
noncomputable def slices_Clone_int_int [Fuel] (s1 : List Int) : Option (List Int) :=
 bothN s1 (
  some []) (
  (app? ([] : List Int) s1).bind fun l2 =>
  some l2)
/-- (*lading/disk.Disk).Arm -/
noncomputable def disk_Disk_Arm [Fuel] (n1 : Int) (keep2 : List Int) (d3 : Int) (d4 : Bool) (d5 : Int) (d6 : List Int) (p7 : List GFilex) (p8 : List GSector) (p9 : List (GSector × Bool)) : Option (Int × Bool × Int × (List Int) × (List GFilex) × (List GSector) × List (GSector × Bool)) :=
 (slices_Clone_int_int keep2).bind fun i10 =>
 some (d3, d4, (max n1 0), i10, p7, p8, p9)
/-- lading/ladinglaw02.do -/
noncomputable def ladinglaw02_do [Fuel] (a1 : GAct) (d2 : Int) (d3 : Bool) (d4 : Int) (d5 : List Int) (p6 : List GFilex) (p7 : List GSector) (p8 : List (GSector × Bool)) : Option (Int × Int × Bool × Int × (List Int) × (List GSector) × (List (GSector × Bool)) × List GFilex) :=
 bif (eqZ (andI .i64 a1.1 7) 2) then
  ((disk_Disk_Sync a1.2.1 d2 d3 d4 d5 p6 p7 p8).bind fun s9 =>
  some (s9.1, s9.2.1, s9.2.2.1, s9.2.2.2.1, s9.2.2.2.2.1, s9.2.2.2.2.2.1, s9.2.2.2.2.2.2.1, s9.2.2.2.2.2.2.2))
 else
  (bif (eqZ (andI .i64 a1.1 7) 3) then
   ((disk_Disk_Truncate a1.2.1 a1.2.2.1 d2 d3 d4 d5 p6 p7 p8).bind fun t10 =>
   some (t10.1, t10.2.1, t10.2.2.1, t10.2.2.2.1, t10.2.2.2.2.1, t10.2.2.2.2.2.1, t10.2.2.2.2.2.2.1, t10.2.2.2.2.2.2.2))
  else
   (bif (eqZ (andI .i64 a1.1 7) 4) then
    ((disk_Disk_Lose (andI .i64 a1.2.2.1 3) d2 d3 d4 d5 p6 p7 p8).bind fun l11 =>
    some (0, l11.1, l11.2.1, l11.2.2.1, l11.2.2.2.1, l11.2.2.2.2.2.1, l11.2.2.2.2.2.2, l11.2.2.2.2.1))
   else
    (bif (eqZ (andI .i64 a1.1 7) 5) then
     ((disk_Disk_Arm a1.2.2.1 a1.2.2.2.2 d2 d3 d4 d5 p6 p7 p8).bind fun a12 =>
     some (0, a12.1, a12.2.1, a12.2.2.1, a12.2.2.2.1, a12.2.2.2.2.2.1, a12.2.2.2.2.2.2, a12.2.2.2.2.1))
    else
     (bif (eqZ (andI .i64 a1.1 7) 6) then
      ((disk_Disk_Crash a1.2.2.2.2 d2 d3 d4 d5 p6 p7 p8).bind fun c13 =>
      some (0, c13.1, c13.2.1, c13.2.2.1, c13.2.2.2.1, c13.2.2.2.2.1, c13.2.2.2.2.2.1, c13.2.2.2.2.2.2))
     else
      (bif (eqZ (andI .i64 a1.1 7) 7) then
       ((disk_Disk_Start d2 d3 d4 d5 p6 p7 p8).bind fun s14 =>
       some (0, s14.1, s14.2.1, s14.2.2.1, s14.2.2.2.1, s14.2.2.2.2.2.1, s14.2.2.2.2.2.2, s14.2.2.2.2.1))
      else
       ((disk_Disk_Write a1.2.1 a1.2.2.1 a1.2.2.2.1 d2 d3 d4 d5 p6 p7 p8).bind fun w15 =>
       some (w15.1, w15.2.1, w15.2.2.1, w15.2.2.2.1, w15.2.2.2.2.1, w15.2.2.2.2.2.1, w15.2.2.2.2.2.2.1, w15.2.2.2.2.2.2.2)))))))
/-- lading/ladingref02.fits -/
noncomputable def ladingref02_fits [Fuel] (at1 : Int) (s2 : Bs) : Option Bool :=
 bif (leZ 0 at1) then
  (bif (leZ at1 16777216) then
   ((z64 (at1 + (s2.length : Int))).bind fun v3 =>
   some (leZ v3 16777216))
  else
   some false)
 else
  some false
/-- (*lading/ladingref02.Disk).get -/
noncomputable def ladingref02_Disk_get.b1 [Fuel] (f1 : Int) (p6 : List GFilex) (i8 : Int) : Option ((Int) ⊕ (GFilex)) :=
 bif (ltZ i8 (p6.length : Int)) then
  ((idx p6 i8).bind fun _9 =>
  (idx p6 i8).bind fun v10 =>
  bif (eqZ v10.1 f1) then
   ((idx p6 i8).bind fun _11 =>
   (idx p6 i8).bind fun v12 =>
   some (.inr v12))
  else
   ((z64 (i8 + 1)).bind fun v13 =>
   some (.inl v13)))
 else
  some (.inr (f1, ([] : Bs), ([] : Bs)))
noncomputable def ladingref02_Disk_get [Fuel] (f1 : Int) (d2 : Int) (d3 : Bool) (d4 : Int) (d5 : List Int) (p6 : List GFilex) (p7 : List GSector) : Option GFilex :=
 loopF (fun x => ladingref02_Disk_get.b1 f1 p6 x) 0
/-- lading/ladingref02.Put -/
noncomputable def ladingref02_Put.b1 [Fuel] (at2 : Int) (t3 : Bs) (b4 : List Int) : Option ((List Int) ⊕ (List Int)) :=
 (z64 (at2 + (t3.length : Int))).bind fun v5 =>
 bif (ltZ (b4.length : Int) v5) then
  ((app? b4 ([0] : List Int)).bind fun l6 =>
  some (.inl l6))
 else
  some (.inr b4)
noncomputable def ladingref02_Put.b2 [Fuel] (at2 : Int) (t3 : Bs) (i8 : Int) (b9 : List Int) : Option ((Int × List Int) ⊕ (Bs)) :=
 bif (ltZ i8 (t3.length : Int)) then
  ((z64 (at2 + i8)).bind fun v10 =>
  (bAt t3 i8).bind fun c11 =>
  (idx b9 v10).bind fun _12 =>
  (idx b9 v10).bind fun v13 =>
  (z64 (i8 + 1)).bind fun v14 =>
  some (.inl (v14, (b9.set v10.toNat c11))))
 else
  (Option.map Sum.inr ((need ((u8sT b9).length ≤ 9223372036854775807)).bind fun _15 =>
  some (u8sT b9)))
noncomputable def ladingref02_Put.j1 [Fuel] (at2 : Int) (t3 : Bs) (b7 : List Int) : Option Bs :=
 loopF (fun x => ladingref02_Put.b2 at2 t3 x.1 x.2) (0, b7)
noncomputable def ladingref02_Put [Fuel] (s1 : Bs) (at2 : Int) (t3 : Bs) : Option Bs :=
 bif (decide (t3 = ([] : Bs))) then
  some s1
 else
  ((loopF (fun x => ladingref02_Put.b1 at2 t3 x) (bytesT s1)).bind fun x =>
  ladingref02_Put.j1 at2 t3 x)
/-- (*lading/ladingref02.Disk).set -/
noncomputable def ladingref02_Disk_set.b1 [Fuel] (x1 : GFilex) (d2 : Int) (d3 : Bool) (d4 : Int) (d5 : List Int) (p6 : List GFilex) (p7 : List GSector) (i8 : Int) (out9 : List GFilex) : Option ((Int × List GFilex) ⊕ (Int × Bool × Int × (List Int) × (List GFilex) × (List GFilex) × List GSector)) :=
 bif (ltZ i8 (p6.length : Int)) then
  ((idx p6 i8).bind fun _10 =>
  (idx p6 i8).bind fun v11 =>
  bif (!eqZ v11.1 x1.1) then
   ((idx p6 i8).bind fun _12 =>
   (idx p6 i8).bind fun v13 =>
   (app? out9 ([v13] : List GFilex)).bind fun l14 =>
   (z64 (i8 + 1)).bind fun v15 =>
   some (.inl (v15, l14)))
  else
   ((z64 (i8 + 1)).bind fun v16 =>
   some (.inl (v16, out9))))
 else
  (Option.map Sum.inr ((app? out9 ([x1] : List GFilex)).bind fun l17 =>
  some (d2, d3, d4, d5, l17, p6, p7)))
noncomputable def ladingref02_Disk_set [Fuel] (x1 : GFilex) (d2 : Int) (d3 : Bool) (d4 : Int) (d5 : List Int) (p6 : List GFilex) (p7 : List GSector) : Option (Int × Bool × Int × (List Int) × (List GFilex) × (List GFilex) × List GSector) :=
 loopF (fun x => ladingref02_Disk_set.b1 x1 d2 d3 d4 d5 p6 p7 x.1 x.2) (0, [])
/-- (*lading/ladingref02.Disk).pending -/
noncomputable def ladingref02_Disk_pending.j1 [Fuel] (i9 : Int) (v14 : Bool) : Option ((Int) ⊕ (Bool)) :=
 bif v14 then
  some (.inr true)
 else
  ((z64 (i9 + 1)).bind fun v15 =>
  some (.inl v15))
noncomputable def ladingref02_Disk_pending.b1 [Fuel] (f1 : Int) (n2 : Int) (p8 : List GSector) (i9 : Int) : Option ((Int) ⊕ (Bool)) :=
 bif (ltZ i9 (p8.length : Int)) then
  (((idx p8 i9).bind fun _10 =>
  (idx p8 i9).bind fun v11 =>
  bif (eqZ v11.1 f1) then
   ((idx p8 i9).bind fun _12 =>
   (idx p8 i9).bind fun v13 =>
   some (eqZ v13.2 n2))
  else
   some false).bind fun x =>
  ladingref02_Disk_pending.j1 i9 x)
 else
  some (.inr false)
noncomputable def ladingref02_Disk_pending [Fuel] (f1 : Int) (n2 : Int) (d3 : Int) (d4 : Bool) (d5 : Int) (d6 : List Int) (p7 : List GFilex) (p8 : List GSector) : Option Bool :=
 loopF (fun x => ladingref02_Disk_pending.b1 f1 n2 p8 x) 0
/-- (*lading/ladingref02.Disk).add -/
noncomputable def ladingref02_Disk_add.b1 [Fuel] (f1 : Int) (at2 : Int) (s3 : Bs) (n14 : Int) (d15 : Int) (d16 : Bool) (d17 : Int) (d18 : List Int) (v19 : List GFilex) (v20 : List GSector) : Option ((Int × Int × Bool × Int × (List Int) × (List GFilex) × List GSector) ⊕ (Int × Bool × Int × (List Int) × (List GFilex) × List GSector)) :=
 (z64 (at2 + (s3.length : Int))).bind fun v21 =>
 (z64 (v21 - 1)).bind fun v22 =>
 (quoZ .i64 v22 64).bind fun v23 =>
 bif (leZ n14 v23) then
  ((ladingref02_Disk_pending f1 n14 d15 d16 d17 d18 v19 v20).bind fun p24 =>
  bif (!p24) then
   ((app? v20 ([(f1, n14)] : List GSector)).bind fun l25 =>
   (z64 (n14 + 1)).bind fun v26 =>
   some (.inl (v26, d15, d16, d17, d18, v19, l25)))
  else
   ((z64 (n14 + 1)).bind fun v27 =>
   some (.inl (v27, d15, d16, d17, d18, v19, v20))))
 else
  some (.inr (d15, d16, d17, d18, v19, v20))
noncomputable def ladingref02_Disk_add [Fuel] (f1 : Int) (at2 : Int) (s3 : Bs) (d4 : Int) (d5 : Bool) (d6 : Int) (d7 : List Int) (p8 : List GFilex) (p9 : List GSector) : Option (Int × Bool × Int × (List Int) × (List GFilex) × List GSector) :=
 bif (decide (s3 = ([] : Bs))) then
  some (d4, d5, d6, d7, p8, p9)
 else
  ((ladingref02_Disk_get f1 d4 d5 d6 d7 p8 p9).bind fun g10 =>
  (ladingref02_Put g10.2.1 at2 s3).bind fun p11 =>
  (ladingref02_Disk_set (g10.1, p11, g10.2.2) d4 d5 d6 d7 p8 p9).bind fun s12 =>
  (quoZ .i64 at2 64).bind fun v13 =>
  loopF (fun x => ladingref02_Disk_add.b1 f1 at2 s3 x.1 x.2.1 x.2.2.1 x.2.2.2.1 x.2.2.2.2.1 x.2.2.2.2.2.1 x.2.2.2.2.2.2) (v13, s12.1, s12.2.1, s12.2.2.1, s12.2.2.2.1, s12.2.2.2.2.1, s12.2.2.2.2.2.2))
/-- (*lading/ladingref02.Disk).survive -/
noncomputable def ladingref02_Disk_survive.j1 [Fuel] (d2 : Int) (d3 : Bool) (d4 : Int) (d5 : List Int) (p6 : List GFilex) (p7 : List GSector) (f16 : Int) (f17 : Bs) (f18 : Bs) : Option (Int × Bool × Int × (List Int) × (List GFilex) × (List GFilex) × List GSector) :=
 (ladingref02_Disk_set (f16, f17, f18) d2 d3 d4 d5 p6 p7).bind fun s19 =>
 some (s19.1, s19.2.1, s19.2.2.1, s19.2.2.2.1, s19.2.2.2.2.1, s19.2.2.2.2.2.1, s19.2.2.2.2.2.2)
noncomputable def ladingref02_Disk_survive [Fuel] (x1 : GSector) (d2 : Int) (d3 : Bool) (d4 : Int) (d5 : List Int) (p6 : List GFilex) (p7 : List GSector) : Option (Int × Bool × Int × (List Int) × (List GFilex) × (List GFilex) × List GSector) :=
 (ladingref02_Disk_get x1.1 d2 d3 d4 d5 p6 p7).bind fun g8 =>
 ((z64 ((64 : Int) * x1.2)).bind fun v9 =>
 bif (ltZ v9 (g8.2.1.length : Int)) then
  ((z64 ((64 : Int) * x1.2)).bind fun v10 =>
  (z64 ((64 : Int) * x1.2)).bind fun v11 =>
  (z64 ((64 : Int) * x1.2)).bind fun v12 =>
  (z64 (v12 + 64)).bind fun v13 =>
  (cut g8.2.1 v11 (min v13 (g8.2.1.length : Int))).bind fun s14 =>
  (ladingref02_Put g8.2.2 v10 s14).bind fun p15 =>
  some (g8.1, g8.2.1, p15))
 else
  some (g8.1, g8.2.1, g8.2.2)).bind fun x =>
 ladingref02_Disk_survive.j1 d2 d3 d4 d5 p6 p7 x.1 x.2.1 x.2.2
/-- (*lading/ladingref02.Disk).Crash -/
noncomputable def ladingref02_Disk_Crash.j1 [Fuel] (p1 : List Int) (v8 : Int) (d9 : Int) (d10 : Bool) (d11 : Int) (d12 : List Int) (v13 : List GFilex) (v14 : List GSector) (v15 : Bool) : Option ((Int × Int × Bool × Int × (List Int) × (List GFilex) × List GSector) ⊕ (Int × Bool × Int × (List Int) × (List GFilex) × List GSector)) :=
 bif v15 then
  ((remZ .i64 v8 (p1.length : Int)).bind fun v16 =>
  (idx p1 v16).bind fun v17 =>
  bif (eqZ (andI .i64 v17 1) 1) then
   ((idx v14 v8).bind fun _18 =>
   (idx v14 v8).bind fun v19 =>
   (ladingref02_Disk_survive v19 d9 d10 d11 d12 v13 v14).bind fun s20 =>
   (z64 (v8 + 1)).bind fun v21 =>
   some (.inl (v21, s20.1, s20.2.1, s20.2.2.1, s20.2.2.2.1, s20.2.2.2.2.1, s20.2.2.2.2.2.2)))
  else
   ((z64 (v8 + 1)).bind fun v22 =>
   some (.inl (v22, d9, d10, d11, d12, v13, v14))))
 else
  some (.inr (d9, d10, d11, d12, v13, v14))
noncomputable def ladingref02_Disk_Crash.b1 [Fuel] (p1 : List Int) (v8 : Int) (d9 : Int) (d10 : Bool) (d11 : Int) (d12 : List Int) (v13 : List GFilex) (v14 : List GSector) : Option ((Int × Int × Bool × Int × (List Int) × (List GFilex) × List GSector) ⊕ (Int × Bool × Int × (List Int) × (List GFilex) × List GSector)) :=
 (bif (ltZ v8 (v14.length : Int)) then
  some (ltZ 0 (p1.length : Int))
 else
  some false).bind fun x =>
 ladingref02_Disk_Crash.j1 p1 v8 d9 d10 d11 d12 v13 v14 x
noncomputable def ladingref02_Disk_Crash.b2 [Fuel] (d23 : Int) (d24 : Bool) (d25 : Int) (d26 : List Int) (v27 : List GFilex) (v29 : Int) (v30 : List GFilex) : Option ((Int × List GFilex) ⊕ (Int × Bool × Int × (List Int) × (List GFilex) × List GSector)) :=
 bif (ltZ v29 (v27.length : Int)) then
  ((idx v27 v29).bind fun _31 =>
  (idx v27 v29).bind fun v32 =>
  (idx v27 v29).bind fun _33 =>
  (idx v27 v29).bind fun v34 =>
  (idx v27 v29).bind fun _35 =>
  (idx v27 v29).bind fun v36 =>
  (app? v30 ([(v32.1, v34.2.2, v36.2.2)] : List GFilex)).bind fun l37 =>
  (z64 (v29 + 1)).bind fun v38 =>
  some (.inl (v38, l37)))
 else
  some (.inr (d23, d24, d25, d26, v30, []))
noncomputable def ladingref02_Disk_Crash.j2 [Fuel] (d23 : Int) (d24 : Bool) (d25 : Int) (d26 : List Int) (v27 : List GFilex) (v28 : List GSector) : Option (Int × Bool × Int × (List Int) × (List GFilex) × List GSector) :=
 loopF (fun x => ladingref02_Disk_Crash.b2 d23 d24 d25 d26 v27 x.1 x.2) (0, [])
noncomputable def ladingref02_Disk_Crash [Fuel] (p1 : List Int) (d2 : Int) (d3 : Bool) (d4 : Int) (d5 : List Int) (p6 : List GFilex) (p7 : List GSector) : Option (Int × Bool × Int × (List Int) × (List GFilex) × List GSector) :=
 bif d3 then
  some (d2, d3, d4, d5, p6, p7)
 else
  ((loopF (fun x => ladingref02_Disk_Crash.b1 p1 x.1 x.2.1 x.2.2.1 x.2.2.2.1 x.2.2.2.2.1 x.2.2.2.2.2.1 x.2.2.2.2.2.2) (0, d2, true, 0, d5, p6, p7)).bind fun x =>
  ladingref02_Disk_Crash.j2 x.1 x.2.1 x.2.2.1 x.2.2.2.1 x.2.2.2.2.1 x.2.2.2.2.2)
/-- (*lading/ladingref02.Disk).comes -/
noncomputable def ladingref02_Disk_comes.j1 [Fuel] (f1 : Int) (at2 : Int) (s3 : Bs) (d4 : Int) (d5 : Bool) (d7 : List Int) (p8 : List GFilex) (p9 : List GSector) (v11 : Int) (v13 : Bool) : Option (Int × Bool × Int × (List Int) × (List GFilex) × List GSector) :=
 bif v13 then
  ((ladingref02_Disk_add f1 at2 s3 d4 d5 v11 d7 p8 p9).bind fun a14 =>
  some (a14.1, a14.2.1, a14.2.2.1, a14.2.2.2.1, a14.2.2.2.2.1, a14.2.2.2.2.2))
 else
  some (d4, d5, v11, d7, p8, p9)
noncomputable def ladingref02_Disk_comes.j2 [Fuel] (d15 : Int) (d16 : Bool) (d17 : Int) (d18 : List Int) (v19 : List GFilex) (v20 : List GSector) : Option (Int × Bool × Int × (List Int) × (List GFilex) × List GSector) :=
 (ladingref02_Disk_Crash d18 d15 d16 d17 d18 v19 v20).bind fun c21 =>
 some (c21.1, c21.2.1, c21.2.2.1, c21.2.2.2.1, c21.2.2.2.2.1, c21.2.2.2.2.2)
noncomputable def ladingref02_Disk_comes.j3 [Fuel] (f1 : Int) (at2 : Int) (s3 : Bs) (d4 : Int) (d5 : Bool) (d6 : Int) (d7 : List Int) (p8 : List GFilex) (p9 : List GSector) (v10 : Bool) : Option (Int × Bool × Int × (List Int) × (List GFilex) × List GSector) :=
 bif v10 then
  some (d4, d5, d6, d7, p8, p9)
 else
  ((z64 (d6 - 1)).bind fun v11 =>
  bif (ltZ 0 v11) then
   some (d4, d5, v11, d7, p8, p9)
  else
   (((bif (leZ 0 f1) then
    (bif (leZ f1 15) then
     ((ladingref02_fits at2 s3).bind fun f12 =>
     some f12)
    else
     some false)
   else
    some false).bind fun x =>
   ladingref02_Disk_comes.j1 f1 at2 s3 d4 d5 d7 p8 p9 v11 x).bind fun x =>
   ladingref02_Disk_comes.j2 x.1 x.2.1 x.2.2.1 x.2.2.2.1 x.2.2.2.2.1 x.2.2.2.2.2))
noncomputable def ladingref02_Disk_comes [Fuel] (f1 : Int) (at2 : Int) (s3 : Bs) (d4 : Int) (d5 : Bool) (d6 : Int) (d7 : List Int) (p8 : List GFilex) (p9 : List GSector) : Option (Int × Bool × Int × (List Int) × (List GFilex) × List GSector) :=
 (bif d5 then
  some true
 else
  some (eqZ d6 0)).bind fun x =>
 ladingref02_Disk_comes.j3 f1 at2 s3 d4 d5 d6 d7 p8 p9 x
/-- (*lading/ladingref02.Disk).may -/
noncomputable def ladingref02_Disk_may.j1 [Fuel] (v8 : Bool) : Option Int :=
 bif v8 then
  some 1
 else
  some 0
noncomputable def ladingref02_Disk_may [Fuel] (f1 : Int) (d2 : Int) (d3 : Bool) (d4 : Int) (d5 : List Int) (p6 : List GFilex) (p7 : List GSector) : Option Int :=
 bif d3 then
  some 8
 else
  ((bif (ltZ f1 0) then
   some true
  else
   some (ltZ 15 f1)).bind fun x =>
  ladingref02_Disk_may.j1 x)
/-- (*lading/ladingref02.Disk).settle -/
noncomputable def ladingref02_Disk_settle.b1 [Fuel] (f1 : Int) (s9 : Int × Bool × Int × (List Int) × (List GFilex) × (List GFilex) × List GSector) (i10 : Int) (out11 : List GSector) : Option ((Int × List GSector) ⊕ (Int × Bool × Int × (List Int) × (List GFilex) × (List GSector) × List GSector)) :=
 bif (ltZ i10 (s9.2.2.2.2.2.2.length : Int)) then
  ((idx s9.2.2.2.2.2.2 i10).bind fun _12 =>
  (idx s9.2.2.2.2.2.2 i10).bind fun v13 =>
  bif (!eqZ v13.1 f1) then
   ((idx s9.2.2.2.2.2.2 i10).bind fun _14 =>
   (idx s9.2.2.2.2.2.2 i10).bind fun v15 =>
   (app? out11 ([v15] : List GSector)).bind fun l16 =>
   (z64 (i10 + 1)).bind fun v17 =>
   some (.inl (v17, l16)))
  else
   ((z64 (i10 + 1)).bind fun v18 =>
   some (.inl (v18, out11))))
 else
  some (.inr (s9.1, s9.2.1, s9.2.2.1, s9.2.2.2.1, s9.2.2.2.2.1, out11, s9.2.2.2.2.2.2))
noncomputable def ladingref02_Disk_settle [Fuel] (f1 : Int) (s2 : Bs) (d3 : Int) (d4 : Bool) (d5 : Int) (d6 : List Int) (p7 : List GFilex) (p8 : List GSector) : Option (Int × Bool × Int × (List Int) × (List GFilex) × (List GSector) × List GSector) :=
 (ladingref02_Disk_set (f1, s2, s2) d3 d4 d5 d6 p7 p8).bind fun s9 =>
 loopF (fun x => ladingref02_Disk_settle.b1 f1 s9 x.1 x.2) (0, [])
/-- (*lading/ladingref02.Disk).Sync -/
noncomputable def ladingref02_Disk_Sync [Fuel] (f1 : Int) (d2 : Int) (d3 : Bool) (d4 : Int) (d5 : List Int) (p6 : List GFilex) (p7 : List GSector) : Option (Int × Int × Bool × Int × (List Int) × (List GFilex) × List GSector) :=
 (ladingref02_Disk_comes 0 0 ([] : Bs) d2 d3 d4 d5 p6 p7).bind fun c8 =>
 (ladingref02_Disk_may f1 c8.1 c8.2.1 c8.2.2.1 c8.2.2.2.1 c8.2.2.2.2.1 c8.2.2.2.2.2).bind fun m9 =>
 bif (!eqZ m9 0) then
  some (m9, c8.1, c8.2.1, c8.2.2.1, c8.2.2.2.1, c8.2.2.2.2.1, c8.2.2.2.2.2)
 else
  (bif (ltZ 0 c8.1) then
   ((z64 (c8.1 - 1)).bind fun v10 =>
   some (9, v10, c8.2.1, c8.2.2.1, c8.2.2.2.1, c8.2.2.2.2.1, c8.2.2.2.2.2))
  else
   ((ladingref02_Disk_get f1 c8.1 c8.2.1 c8.2.2.1 c8.2.2.2.1 c8.2.2.2.2.1 c8.2.2.2.2.2).bind fun g11 =>
   (ladingref02_Disk_settle f1 g11.2.1 c8.1 c8.2.1 c8.2.2.1 c8.2.2.2.1 c8.2.2.2.2.1 c8.2.2.2.2.2).bind fun s12 =>
   some (0, s12.1, s12.2.1, s12.2.2.1, s12.2.2.2.1, s12.2.2.2.2.1, s12.2.2.2.2.2.1)))
/-- (*lading/ladingref02.Disk).Truncate -/
noncomputable def ladingref02_Disk_Truncate.j1 [Fuel] (f1 : Int) (size2 : Int) (c9 : Int × Bool × Int × (List Int) × (List GFilex) × List GSector) (g11 : GFilex) (v12 : Bool) : Option (Int × Int × Bool × Int × (List Int) × (List GFilex) × List GSector) :=
 bif v12 then
  some (1, c9.1, c9.2.1, c9.2.2.1, c9.2.2.2.1, c9.2.2.2.2.1, c9.2.2.2.2.2)
 else
  ((cut g11.2.1 0 size2).bind fun s13 =>
  (ladingref02_Disk_settle f1 s13 c9.1 c9.2.1 c9.2.2.1 c9.2.2.2.1 c9.2.2.2.2.1 c9.2.2.2.2.2).bind fun s14 =>
  some (0, s14.1, s14.2.1, s14.2.2.1, s14.2.2.2.1, s14.2.2.2.2.1, s14.2.2.2.2.2.1))
noncomputable def ladingref02_Disk_Truncate [Fuel] (f1 : Int) (size2 : Int) (d3 : Int) (d4 : Bool) (d5 : Int) (d6 : List Int) (p7 : List GFilex) (p8 : List GSector) : Option (Int × Int × Bool × Int × (List Int) × (List GFilex) × List GSector) :=
 (ladingref02_Disk_comes 0 0 ([] : Bs) d3 d4 d5 d6 p7 p8).bind fun c9 =>
 (ladingref02_Disk_may f1 c9.1 c9.2.1 c9.2.2.1 c9.2.2.2.1 c9.2.2.2.2.1 c9.2.2.2.2.2).bind fun m10 =>
 bif (!eqZ m10 0) then
  some (m10, c9.1, c9.2.1, c9.2.2.1, c9.2.2.2.1, c9.2.2.2.2.1, c9.2.2.2.2.2)
 else
  ((ladingref02_Disk_get f1 c9.1 c9.2.1 c9.2.2.1 c9.2.2.2.1 c9.2.2.2.2.1 c9.2.2.2.2.2).bind fun g11 =>
  (bif (ltZ size2 0) then
   some true
  else
   some (ltZ (g11.2.1.length : Int) size2)).bind fun x =>
  ladingref02_Disk_Truncate.j1 f1 size2 c9 g11 x)
/-- (*lading/ladingref02.Disk).Lose -/
noncomputable def ladingref02_Disk_Lose [Fuel] (n1 : Int) (d2 : Int) (d3 : Bool) (d4 : Int) (d5 : List Int) (p6 : List GFilex) (p7 : List GSector) : Option (Int × Bool × Int × (List Int) × (List GFilex) × List GSector) :=
 some ((max n1 0), d3, d4, d5, p6, p7)
/-- (*lading/ladingref02.Disk).Arm -/
noncomputable def ladingref02_Disk_Arm [Fuel] (n1 : Int) (keep2 : List Int) (d3 : Int) (d4 : Bool) (d5 : Int) (d6 : List Int) (p7 : List GFilex) (p8 : List GSector) : Option (Int × Bool × Int × (List Int) × (List GFilex) × List GSector) :=
 (app? ([] : List Int) keep2).bind fun l9 =>
 some (d3, d4, (max n1 0), l9, p7, p8)
/-- (*lading/ladingref02.Disk).Start -/
noncomputable def ladingref02_Disk_Start [Fuel] (d1 : Int) (d2 : Bool) (d3 : Int) (d4 : List Int) (p5 : List GFilex) (p6 : List GSector) : Option (Int × Bool × Int × (List Int) × (List GFilex) × List GSector) :=
 some (d1, false, d3, d4, p5, p6)
/-- (*lading/ladingref02.Disk).Write -/
noncomputable def ladingref02_Disk_Write [Fuel] (f1 : Int) (at2 : Int) (s3 : Bs) (d4 : Int) (d5 : Bool) (d6 : Int) (d7 : List Int) (p8 : List GFilex) (p9 : List GSector) : Option (Int × Int × Bool × Int × (List Int) × (List GFilex) × List GSector) :=
 (ladingref02_Disk_comes f1 at2 s3 d4 d5 d6 d7 p8 p9).bind fun c10 =>
 (ladingref02_Disk_may f1 c10.1 c10.2.1 c10.2.2.1 c10.2.2.2.1 c10.2.2.2.2.1 c10.2.2.2.2.2).bind fun m11 =>
 bif (!eqZ m11 0) then
  some (m11, c10.1, c10.2.1, c10.2.2.1, c10.2.2.2.1, c10.2.2.2.2.1, c10.2.2.2.2.2)
 else
  (bif (ltZ at2 0) then
   some (1, c10.1, c10.2.1, c10.2.2.1, c10.2.2.2.1, c10.2.2.2.2.1, c10.2.2.2.2.2)
  else
   ((ladingref02_fits at2 s3).bind fun f12 =>
   bif (!f12) then
    some (6, c10.1, c10.2.1, c10.2.2.1, c10.2.2.2.1, c10.2.2.2.2.1, c10.2.2.2.2.2)
   else
    ((ladingref02_Disk_add f1 at2 s3 c10.1 c10.2.1 c10.2.2.1 c10.2.2.2.1 c10.2.2.2.2.1 c10.2.2.2.2.2).bind fun a13 =>
    some (0, a13.1, a13.2.1, a13.2.2.1, a13.2.2.2.1, a13.2.2.2.2.1, a13.2.2.2.2.2))))
/-- lading/ladinglaw02.tell -/
noncomputable def ladinglaw02_tell [Fuel] (a1 : GAct) (d2 : Int) (d3 : Bool) (d4 : Int) (d5 : List Int) (p6 : List GFilex) (p7 : List GSector) : Option (Int × Int × Bool × Int × (List Int) × (List GFilex) × List GSector) :=
 bif (eqZ (andI .i64 a1.1 7) 2) then
  ((ladingref02_Disk_Sync a1.2.1 d2 d3 d4 d5 p6 p7).bind fun s8 =>
  some (s8.1, s8.2.1, s8.2.2.1, s8.2.2.2.1, s8.2.2.2.2.1, s8.2.2.2.2.2.1, s8.2.2.2.2.2.2))
 else
  (bif (eqZ (andI .i64 a1.1 7) 3) then
   ((ladingref02_Disk_Truncate a1.2.1 a1.2.2.1 d2 d3 d4 d5 p6 p7).bind fun t9 =>
   some (t9.1, t9.2.1, t9.2.2.1, t9.2.2.2.1, t9.2.2.2.2.1, t9.2.2.2.2.2.1, t9.2.2.2.2.2.2))
  else
   (bif (eqZ (andI .i64 a1.1 7) 4) then
    ((ladingref02_Disk_Lose (andI .i64 a1.2.2.1 3) d2 d3 d4 d5 p6 p7).bind fun l10 =>
    some (0, l10.1, l10.2.1, l10.2.2.1, l10.2.2.2.1, l10.2.2.2.2.1, l10.2.2.2.2.2))
   else
    (bif (eqZ (andI .i64 a1.1 7) 5) then
     ((ladingref02_Disk_Arm a1.2.2.1 a1.2.2.2.2 d2 d3 d4 d5 p6 p7).bind fun a11 =>
     some (0, a11.1, a11.2.1, a11.2.2.1, a11.2.2.2.1, a11.2.2.2.2.1, a11.2.2.2.2.2))
    else
     (bif (eqZ (andI .i64 a1.1 7) 6) then
      ((ladingref02_Disk_Crash a1.2.2.2.2 d2 d3 d4 d5 p6 p7).bind fun c12 =>
      some (0, c12.1, c12.2.1, c12.2.2.1, c12.2.2.2.1, c12.2.2.2.2.1, c12.2.2.2.2.2))
     else
      (bif (eqZ (andI .i64 a1.1 7) 7) then
       ((ladingref02_Disk_Start d2 d3 d4 d5 p6 p7).bind fun s13 =>
       some (0, s13.1, s13.2.1, s13.2.2.1, s13.2.2.2.1, s13.2.2.2.2.1, s13.2.2.2.2.2))
      else
       ((ladingref02_Disk_Write a1.2.1 a1.2.2.1 a1.2.2.2.1 d2 d3 d4 d5 p6 p7).bind fun w14 =>
       some (w14.1, w14.2.1, w14.2.2.1, w14.2.2.2.1, w14.2.2.2.2.1, w14.2.2.2.2.2.1, w14.2.2.2.2.2.2)))))))
/-- (*lading/ladingref02.Disk).Down -/
noncomputable def ladingref02_Disk_Down [Fuel] (d1 : Int) (d2 : Bool) (d3 : Int) (d4 : List Int) (p5 : List GFilex) (p6 : List GSector) : Option Bool :=
 some d2
/-- (*lading/ladingref02.Disk).Size -/
noncomputable def ladingref02_Disk_Size [Fuel] (f1 : Int) (d2 : Int) (d3 : Bool) (d4 : Int) (d5 : List Int) (p6 : List GFilex) (p7 : List GSector) : Option Int :=
 (ladingref02_Disk_get f1 d2 d3 d4 d5 p6 p7).bind fun g8 =>
 some (g8.2.1.length : Int)
/-- (*lading/ladingref02.Disk).Read -/
noncomputable def ladingref02_Disk_Read.j1 [Fuel] (f1 : Int) (at2 : Int) (size3 : Int) (d4 : Int) (d5 : Bool) (d6 : Int) (d7 : List Int) (p8 : List GFilex) (p9 : List GSector) (v11 : Bool) : Option (Bs × Int) :=
 bif v11 then
  some (([] : Bs), 1)
 else
  ((ladingref02_Disk_get f1 d4 d5 d6 d7 p8 p9).bind fun g12 =>
  bif (leZ (g12.2.1.length : Int) at2) then
   some (([] : Bs), 0)
  else
   ((z64 ((g12.2.1.length : Int) - at2)).bind fun v13 =>
   (z64 (at2 + (min size3 v13))).bind fun v14 =>
   (cut g12.2.1 at2 v14).bind fun s15 =>
   some (s15, 0)))
noncomputable def ladingref02_Disk_Read [Fuel] (f1 : Int) (at2 : Int) (size3 : Int) (d4 : Int) (d5 : Bool) (d6 : Int) (d7 : List Int) (p8 : List GFilex) (p9 : List GSector) : Option (Bs × Int) :=
 (ladingref02_Disk_may f1 d4 d5 d6 d7 p8 p9).bind fun m10 =>
 bif (!eqZ m10 0) then
  some (([] : Bs), m10)
 else
  ((bif (ltZ at2 0) then
   some true
  else
   some (ltZ size3 0)).bind fun x =>
  ladingref02_Disk_Read.j1 f1 at2 size3 d4 d5 d6 d7 p8 p9 x)
/-- lading/ladinglaw02.DiskTells -/
noncomputable def ladinglaw02_DiskTells.j1 [Fuel] (l1 : List GAct) (p2 : Int) (v9 : Int) (v31 : Bool) (v32 : Int) (v33 : Bool) (v34 : Int) (v35 : List Int) (v36 : Int) (v37 : Bool) (v38 : Int) (v39 : List Int) (v40 : List GFilex) (v41 : List GSector) (v42 : List (GSector × Bool)) (v43 : List GFilex) (v44 : List GSector) : Option ((Int × Int × Bool × Int × (List Int) × Int × Bool × Int × (List Int) × (List GFilex) × (List GSector) × (List (GSector × Bool)) × (List GFilex) × List GSector) ⊕ ((Int × Bool × Int × (List Int) × Int × Bool × Int × (List Int) × (List GFilex) × (List GSector) × (List (GSector × Bool)) × (List GFilex) × List GSector) ⊕ (Bool))) :=
 bif v31 then
  some (.inr (.inr false))
 else
  ((quoZ .i64 (l1.length : Int) 2).bind fun v45 =>
  bif (eqZ v9 v45) then
   ((disk_Disk_Copy v32 v33 v34 v35 v40 v41 v42).bind fun c46 =>
   (idx l1 0).bind fun v47 =>
   (ladinglaw02_do v47 v32 v33 v34 v35 v40 v41 v42).bind fun d48 =>
   (disk_Disk_Sync p2 d48.2.1 d48.2.2.1 d48.2.2.2.1 d48.2.2.2.2.1 d48.2.2.2.2.2.2.2 d48.2.2.2.2.2.1 d48.2.2.2.2.2.2.1).bind fun s49 =>
   (z64 (v9 + 1)).bind fun v50 =>
   some (.inl (v50, c46.1, c46.2.1, c46.2.2.1, c46.2.2.2.1, v36, v37, v38, v39, c46.2.2.2.2.1, c46.2.2.2.2.2.1, c46.2.2.2.2.2.2, v43, v44)))
  else
   ((z64 (v9 + 1)).bind fun v51 =>
   some (.inl (v51, v32, v33, v34, v35, v36, v37, v38, v39, v40, v41, v42, v43, v44))))
noncomputable def ladinglaw02_DiskTells.b1 [Fuel] (l1 : List GAct) (p2 : Int) (v9 : Int) (v10 : Int) (v11 : Bool) (v12 : Int) (v13 : List Int) (v14 : Int) (v15 : Bool) (v16 : Int) (v17 : List Int) (v18 : List GFilex) (v19 : List GSector) (v20 : List (GSector × Bool)) (v21 : List GFilex) (v22 : List GSector) : Option ((Int × Int × Bool × Int × (List Int) × Int × Bool × Int × (List Int) × (List GFilex) × (List GSector) × (List (GSector × Bool)) × (List GFilex) × List GSector) ⊕ ((Int × Bool × Int × (List Int) × Int × Bool × Int × (List Int) × (List GFilex) × (List GSector) × (List (GSector × Bool)) × (List GFilex) × List GSector) ⊕ (Bool))) :=
 bif (ltZ v9 (l1.length : Int)) then
  (((idx l1 v9).bind fun v23 =>
  (ladinglaw02_do v23 v10 v11 v12 v13 v18 v19 v20).bind fun d24 =>
  (idx l1 v9).bind fun v25 =>
  (ladinglaw02_tell v25 v14 v15 v16 v17 v21 v22).bind fun t26 =>
  bif (!eqZ d24.1 t26.1) then
   some (true, d24.2.1, d24.2.2.1, d24.2.2.2.1, d24.2.2.2.2.1, t26.2.1, t26.2.2.1, t26.2.2.2.1, t26.2.2.2.2.1, d24.2.2.2.2.2.2.2, d24.2.2.2.2.2.1, d24.2.2.2.2.2.2.1, t26.2.2.2.2.2.1, t26.2.2.2.2.2.2)
  else
   ((disk_Disk_Down d24.2.1 d24.2.2.1 d24.2.2.2.1 d24.2.2.2.2.1 d24.2.2.2.2.2.2.2 d24.2.2.2.2.2.1 d24.2.2.2.2.2.2.1).bind fun d27 =>
   (ladingref02_Disk_Down t26.2.1 t26.2.2.1 t26.2.2.2.1 t26.2.2.2.2.1 t26.2.2.2.2.2.1 t26.2.2.2.2.2.2).bind fun d28 =>
   bif (!(d27 == d28)) then
    some (true, d24.2.1, d24.2.2.1, d24.2.2.2.1, d24.2.2.2.2.1, t26.2.1, t26.2.2.1, t26.2.2.2.1, t26.2.2.2.2.1, d24.2.2.2.2.2.2.2, d24.2.2.2.2.2.1, d24.2.2.2.2.2.2.1, t26.2.2.2.2.2.1, t26.2.2.2.2.2.2)
   else
    ((disk_Disk_Size p2 d24.2.1 d24.2.2.1 d24.2.2.2.1 d24.2.2.2.2.1 d24.2.2.2.2.2.2.2 d24.2.2.2.2.2.1 d24.2.2.2.2.2.2.1).bind fun s29 =>
    (ladingref02_Disk_Size p2 t26.2.1 t26.2.2.1 t26.2.2.2.1 t26.2.2.2.2.1 t26.2.2.2.2.2.1 t26.2.2.2.2.2.2).bind fun s30 =>
    some ((!eqZ s29 s30), d24.2.1, d24.2.2.1, d24.2.2.2.1, d24.2.2.2.2.1, t26.2.1, t26.2.2.1, t26.2.2.2.1, t26.2.2.2.2.1, d24.2.2.2.2.2.2.2, d24.2.2.2.2.2.1, d24.2.2.2.2.2.2.1, t26.2.2.2.2.2.1, t26.2.2.2.2.2.2)))).bind fun x =>
  ladinglaw02_DiskTells.j1 l1 p2 v9 x.1 x.2.1 x.2.2.1 x.2.2.2.1 x.2.2.2.2.1 x.2.2.2.2.2.1 x.2.2.2.2.2.2.1 x.2.2.2.2.2.2.2.1 x.2.2.2.2.2.2.2.2.1 x.2.2.2.2.2.2.2.2.2.1 x.2.2.2.2.2.2.2.2.2.2.1 x.2.2.2.2.2.2.2.2.2.2.2.1 x.2.2.2.2.2.2.2.2.2.2.2.2.1 x.2.2.2.2.2.2.2.2.2.2.2.2.2)
 else
  some (.inr (.inl (v10, v11, v12, v13, v14, v15, v16, v17, v18, v19, v20, v21, v22)))
noncomputable def ladinglaw02_DiskTells.j2 [Fuel] (p2 : Int) (p3 : Int) (p4 : Int) (s5 : Bool) (v52 : Int) (v53 : Bool) (v54 : Int) (v55 : List Int) (v56 : Int) (v57 : Bool) (v58 : Int) (v59 : List Int) (v60 : List GFilex) (v61 : List GSector) (v62 : List (GSector × Bool)) (v63 : List GFilex) (v64 : List GSector) : Option Bool :=
 (disk_Disk_Read p2 p3 p4 v52 v53 v54 v55 v60 v61 v62).bind fun r65 =>
 (ladingref02_Disk_Read p2 p3 p4 v56 v57 v58 v59 v63 v64).bind fun r66 =>
 bif s5 then
  (bif (decide (r65.1 = r66.1)) then
   some (eqZ r65.2 r66.2)
  else
   some false)
 else
  some false
noncomputable def ladinglaw02_DiskTells [Fuel] (l1 : List GAct) (p2 : Int) (p3 : Int) (p4 : Int) : Option Bool :=
 (ladinglaw02_small).bind fun s5 =>
 (ladinglaw02_few l1).bind fun f6 =>
 bif (!f6) then
  some s5
 else
  ((disk_New).bind fun n7 =>
  (ladingref02_New).bind fun n8 =>
  (loopF (fun x => ladinglaw02_DiskTells.b1 l1 p2 x.1 x.2.1 x.2.2.1 x.2.2.2.1 x.2.2.2.2.1 x.2.2.2.2.2.1 x.2.2.2.2.2.2.1 x.2.2.2.2.2.2.2.1 x.2.2.2.2.2.2.2.2.1 x.2.2.2.2.2.2.2.2.2.1 x.2.2.2.2.2.2.2.2.2.2.1 x.2.2.2.2.2.2.2.2.2.2.2.1 x.2.2.2.2.2.2.2.2.2.2.2.2.1 x.2.2.2.2.2.2.2.2.2.2.2.2.2) (0, n7.1, n7.2.1, n7.2.2.1, n7.2.2.2.1, n8.1, n8.2.1, n8.2.2.1, n8.2.2.2.1, n7.2.2.2.2.1, n7.2.2.2.2.2.1, n7.2.2.2.2.2.2, n8.2.2.2.2.1, n8.2.2.2.2.2)).bind fun x => match x with
  | .inl x =>
   ladinglaw02_DiskTells.j2 p2 p3 p4 s5 x.1 x.2.1 x.2.2.1 x.2.2.2.1 x.2.2.2.2.1 x.2.2.2.2.2.1 x.2.2.2.2.2.2.1 x.2.2.2.2.2.2.2.1 x.2.2.2.2.2.2.2.2.1 x.2.2.2.2.2.2.2.2.2.1 x.2.2.2.2.2.2.2.2.2.2.1 x.2.2.2.2.2.2.2.2.2.2.2.1 x.2.2.2.2.2.2.2.2.2.2.2.2
  | .inr r => some r)
end Go.Proofs.Ytanpfcdbfdkclaa
