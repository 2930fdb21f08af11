/-
  The functions as plain Lean.
-/
import Derived.Test.YtanpfcdbfdkclaaD2
import Derived.Test.YtanpfcdbfdkclaaE3
import Derived.Test.YtanpfcdbfdkclaaDm
import Derived.Test.YtanpfcdbfdkclaaProg
import Derived.KernelRfl
namespace Go.Proofs.Ytanpfcdbfdkclaa
open Go.Lad
set_option linter.unusedVariables false
/-- Do, F, N, S, Keep -/
abbrev GAct : Type := Int × Int × Int × Bs × List Int
/-- now, last -/
abbrev GFile : Type := Bs × Bs
/-- file, number -/
abbrev GSector : Type := Int × Int
/-- lading/disk.New -/
noncomputable def disk_New [Fuel] : Option (Int × Bool × Int × (List Int) × (List (Int × GFile)) × (List GSector) × List (GSector × Bool)) :=
 some (0, false, 0, [], ([] : List (Int × GFile)), [], ([] : List ((Int × Int) × Bool)))
/-- (*lading/disk.Disk).ends -/
noncomputable def disk_Disk_ends.j1 [Fuel] (d1 : Int) (d2 : Bool) (d3 : Int) (d4 : List Int) (p5 : List (Int × GFile)) (p6 : List GSector) (p7 : List (GSector × Bool)) (v8 : Bool) : Option (Bool × Int × Bool × Int × (List Int) × (List (Int × GFile)) × (List GSector) × List (GSector × Bool)) :=
 bif v8 then
  some (false, d1, d2, d3, d4, p5, p6, p7)
 else
  ((z64 (d3 - 1)).bind fun v9 =>
  some ((eqZ v9 0), d1, d2, v9, d4, p5, p6, p7))
noncomputable def disk_Disk_ends [Fuel] (d1 : Int) (d2 : Bool) (d3 : Int) (d4 : List Int) (p5 : List (Int × GFile)) (p6 : List GSector) (p7 : List (GSector × Bool)) : Option (Bool × Int × Bool × Int × (List Int) × (List (Int × GFile)) × (List GSector) × List (GSector × Bool)) :=
 (bif d2 then
  some true
 else
  some (eqZ d3 0)).bind fun x =>
 disk_Disk_ends.j1 d1 d2 d3 d4 p5 p6 p7 x
/-- (*lading/disk.Disk).may -/
noncomputable def disk_Disk_may.j1 [Fuel] (v9 : Bool) : Option Int :=
 bif v9 then
  some 1
 else
  some 0
noncomputable def disk_Disk_may [Fuel] (f1 : Int) (d2 : Int) (d3 : Bool) (d4 : Int) (d5 : List Int) (p6 : List (Int × GFile)) (p7 : List GSector) (p8 : List (GSector × Bool)) : Option Int :=
 bif d3 then
  some 8
 else
  ((bif (ltZ f1 0) then
   some true
  else
   some (leZ 16 f1)).bind fun x =>
  disk_Disk_may.j1 x)
/-- lading/disk.put -/
noncomputable def disk_put [Fuel] (s1 : Bs) (at2 : Int) (t3 : Bs) : Option Bs :=
 bif (decide (t3 = ([] : Bs))) then
  some s1
 else
  ((z64 (at2 + (t3.length : Int))).bind fun v4 =>
  (msNeed (max (s1.length : Int) v4) (max (s1.length : Int) v4)).bind fun _5 =>
  (cpNeed (repT (max (s1.length : Int) v4) (0 : Int)).length 0 ((repT (max (s1.length : Int) v4) (0 : Int)).length : Int)).bind fun _6 =>
  (cut (cpB (repT (max (s1.length : Int) v4) (0 : Int)) 0 ((repT (max (s1.length : Int) v4) (0 : Int)).length : Int) s1) at2 ((cpB (repT (max (s1.length : Int) v4) (0 : Int)) 0 ((repT (max (s1.length : Int) v4) (0 : Int)).length : Int) s1).length : Int)).bind fun _7 =>
  (cpNeed (cpB (repT (max (s1.length : Int) v4) (0 : Int)) 0 ((repT (max (s1.length : Int) v4) (0 : Int)).length : Int) s1).length at2 ((cpB (repT (max (s1.length : Int) v4) (0 : Int)) 0 ((repT (max (s1.length : Int) v4) (0 : Int)).length : Int) s1).length : Int)).bind fun _8 =>
  (need ((u8sT (cpB (cpB (repT (max (s1.length : Int) v4) (0 : Int)) 0 ((repT (max (s1.length : Int) v4) (0 : Int)).length : Int) s1) at2 ((cpB (repT (max (s1.length : Int) v4) (0 : Int)) 0 ((repT (max (s1.length : Int) v4) (0 : Int)).length : Int) s1).length : Int) t3)).length ≤ 9223372036854775807)).bind fun _9 =>
  some (u8sT (cpB (cpB (repT (max (s1.length : Int) v4) (0 : Int)) 0 ((repT (max (s1.length : Int) v4) (0 : Int)).length : Int) s1) at2 ((cpB (repT (max (s1.length : Int) v4) (0 : Int)) 0 ((repT (max (s1.length : Int) v4) (0 : Int)).length : Int) s1).length : Int) t3)))
/-- (*lading/disk.Disk).write -/
noncomputable def disk_Disk_write.b1 [Fuel] (p1 : Int) (p2 : Int) (p3 : Bs) (v16 : Int) (d17 : Int) (d18 : Bool) (d19 : Int) (d20 : List Int) (v21 : List (Int × GFile)) (v22 : List GSector) (v23 : List (GSector × Bool)) : Option ((Int × Int × Bool × Int × (List Int) × (List (Int × GFile)) × (List GSector) × List (GSector × Bool)) ⊕ (Int × Int × Bool × Int × (List Int) × (List GSector) × (List (Int × GFile)) × List (GSector × Bool))) :=
 (z64 (p2 + (p3.length : Int))).bind fun v24 =>
 (z64 (v24 - 1)).bind fun v25 =>
 (quoZ .i64 v25 64).bind fun v26 =>
 bif (leZ v16 v26) then
  (bif (!((lookM v23 (p1, v16)).getD false)) then
   ((app? v22 ([(p1, v16)] : List GSector)).bind fun l27 =>
   (z64 (v16 + 1)).bind fun v28 =>
   some (.inl (v28, d17, d18, d19, d20, v21, l27, (putM (putM v23 (p1, v16) ((lookM v23 (p1, v16)).getD false)) (p1, v16) true))))
  else
   ((z64 (v16 + 1)).bind fun v29 =>
   some (.inl (v29, d17, d18, d19, d20, v21, v22, v23))))
 else
  some (.inr (0, d17, d18, d19, d20, v22, v21, v23))
noncomputable def disk_Disk_write.j1 [Fuel] (p1 : Int) (p2 : Int) (p3 : Bs) (d4 : Int) (d5 : Bool) (d6 : Int) (d7 : List Int) (p8 : List (Int × GFile)) (p9 : List GSector) (p10 : List (GSector × Bool)) (v13 : Bool) : Option (Int × Int × Bool × Int × (List Int) × (List GSector) × (List (Int × GFile)) × List (GSector × Bool)) :=
 bif v13 then
  some (6, d4, d5, d6, d7, p9, p8, p10)
 else
  (bif (decide (p3 = ([] : Bs))) then
   some (0, d4, d5, d6, d7, p9, p8, p10)
  else
   ((disk_put (((lookM p8 p1).getD (([] : Bs), ([] : Bs))).1) p2 p3).bind fun p14 =>
   (quoZ .i64 p2 64).bind fun v15 =>
   loopF (fun x => disk_Disk_write.b1 p1 p2 p3 x.1 x.2.1 x.2.2.1 x.2.2.2.1 x.2.2.2.2.1 x.2.2.2.2.2.1 x.2.2.2.2.2.2.1 x.2.2.2.2.2.2.2) (v15, d4, d5, d6, d7, (putM p8 p1 (p14, ((lookM p8 p1).getD (([] : Bs), ([] : Bs))).2)), p9, p10)))
noncomputable def disk_Disk_write [Fuel] (p1 : Int) (p2 : Int) (p3 : Bs) (d4 : Int) (d5 : Bool) (d6 : Int) (d7 : List Int) (p8 : List (Int × GFile)) (p9 : List GSector) (p10 : List (GSector × Bool)) : Option (Int × Int × Bool × Int × (List Int) × (List GSector) × (List (Int × GFile)) × List (GSector × Bool)) :=
 (disk_Disk_may p1 d4 d5 d6 d7 p8 p9 p10).bind fun m11 =>
 bif (!eqZ m11 0) then
  some (m11, d4, d5, d6, d7, p9, p8, p10)
 else
  (bif (ltZ p2 0) then
   some (1, d4, d5, d6, d7, p9, p8, p10)
  else
   ((bif (ltZ 16777216 p2) then
    some true
   else
    ((z64 ((16777216 : Int) - p2)).bind fun v12 =>
    some (ltZ v12 (p3.length : Int)))).bind fun x =>
   disk_Disk_write.j1 p1 p2 p3 d4 d5 d6 d7 p8 p9 p10 x))
/-- (*lading/disk.Disk).Crash -/
noncomputable def disk_Disk_Crash.j1 [Fuel] (v9 : Int) (d10 : Int) (d11 : Bool) (d12 : Int) (d13 : List Int) (v14 : List GSector) (v15 : List (Int × GFile)) (v16 : List (GSector × Bool)) (v18 : GSector) (v19 : Int) (v22 : Bool) : Option ((Int × Int × Bool × Int × (List Int) × (List GSector) × (List (Int × GFile)) × List (GSector × Bool)) ⊕ (Int × Bool × Int × (List Int) × (List (Int × GFile)) × (List GSector) × List (GSector × Bool))) :=
 bif v22 then
  ((z64 (v9 + 1)).bind fun v23 =>
  some (.inl (v23, d10, d11, d12, d13, v14, v15, v16)))
 else
  ((z64 (v19 + 64)).bind fun v24 =>
  (cut (((lookM v15 v18.1).getD (([] : Bs), ([] : Bs))).1) v19 (min v24 ((((lookM v15 v18.1).getD (([] : Bs), ([] : Bs))).1).length : Int))).bind fun s25 =>
  (disk_put (((lookM v15 v18.1).getD (([] : Bs), ([] : Bs))).2) v19 s25).bind fun p26 =>
  (z64 (v9 + 1)).bind fun v27 =>
  some (.inl (v27, d10, d11, d12, d13, v14, (putM v15 v18.1 (((lookM v15 v18.1).getD (([] : Bs), ([] : Bs))).1, p26)), v16)))
noncomputable def disk_Disk_Crash.b1 [Fuel] (p1 : List Int) (p7 : List GSector) (v9 : Int) (d10 : Int) (d11 : Bool) (d12 : Int) (d13 : List Int) (v14 : List GSector) (v15 : List (Int × GFile)) (v16 : List (GSector × Bool)) : Option ((Int × Int × Bool × Int × (List Int) × (List GSector) × (List (Int × GFile)) × List (GSector × Bool)) ⊕ (Int × Bool × Int × (List Int) × (List (Int × GFile)) × (List GSector) × List (GSector × Bool))) :=
 bif (ltZ v9 (p7.length : Int)) then
  ((idx v14 v9).bind fun _17 =>
  (idx v14 v9).bind fun v18 =>
  (z64 (v18.2 * 64)).bind fun v19 =>
  (bif (eqZ (p1.length : Int) 0) then
   some true
  else
   ((remZ .i64 v9 (p1.length : Int)).bind fun v20 =>
   (idx p1 v20).bind fun v21 =>
   bif (eqZ (andI .i64 v21 1) 0) then
    some true
   else
    some (leZ ((((lookM v15 v18.1).getD (([] : Bs), ([] : Bs))).1).length : Int) v19))).bind fun x =>
  disk_Disk_Crash.j1 v9 d10 d11 d12 d13 v14 v15 v16 v18 v19 x)
 else
  some (.inr (d10, d11, d12, d13, v15, v14, v16))
noncomputable def disk_Disk_Crash.j2 [Fuel] (d28 : Int) (d29 : Bool) (d30 : Int) (d31 : List Int) (v32 : List (Int × GFile)) (v33 : List GSector) (v34 : List (GSector × Bool)) : Option (Int × Bool × Int × (List Int) × (List GSector) × (List (GSector × Bool)) × List (Int × GFile)) :=
 some (d28, d29, d30, d31, [], ([] : List ((Int × Int) × Bool)), (lastsF v32))
noncomputable def disk_Disk_Crash [Fuel] (p1 : List Int) (d2 : Int) (d3 : Bool) (d4 : Int) (d5 : List Int) (p6 : List (Int × GFile)) (p7 : List GSector) (p8 : List (GSector × Bool)) : Option (Int × Bool × Int × (List Int) × (List GSector) × (List (GSector × Bool)) × List (Int × GFile)) :=
 bif d3 then
  some (d2, d3, d4, d5, p7, p8, p6)
 else
  ((loopF (fun x => disk_Disk_Crash.b1 p1 p7 x.1 x.2.1 x.2.2.1 x.2.2.2.1 x.2.2.2.2.1 x.2.2.2.2.2.1 x.2.2.2.2.2.2.1 x.2.2.2.2.2.2.2) (0, d2, true, 0, d5, p7, p6, p8)).bind fun x =>
  disk_Disk_Crash.j2 x.1 x.2.1 x.2.2.1 x.2.2.2.1 x.2.2.2.2.1 x.2.2.2.2.2.1 x.2.2.2.2.2.2)
/-- (*lading/disk.Disk).Write -/
noncomputable def disk_Disk_Write [Fuel] (f1 : Int) (at2 : Int) (s3 : Bs) (d4 : Int) (d5 : Bool) (d6 : Int) (d7 : List Int) (p8 : List (Int × GFile)) (p9 : List GSector) (p10 : List (GSector × Bool)) : Option (Int × Int × Bool × Int × (List Int) × (List GSector) × (List (GSector × Bool)) × List (Int × GFile)) :=
 (disk_Disk_ends d4 d5 d6 d7 p8 p9 p10).bind fun e11 =>
 (disk_Disk_write f1 at2 s3 e11.2.1 e11.2.2.1 e11.2.2.2.1 e11.2.2.2.2.1 e11.2.2.2.2.2.1 e11.2.2.2.2.2.2.1 e11.2.2.2.2.2.2.2).bind fun w12 =>
 bif e11.1 then
  ((disk_Disk_Crash w12.2.2.2.2.1 w12.2.1 w12.2.2.1 w12.2.2.2.1 w12.2.2.2.2.1 w12.2.2.2.2.2.2.1 w12.2.2.2.2.2.1 w12.2.2.2.2.2.2.2).bind fun c13 =>
  some (8, c13.1, c13.2.1, c13.2.2.1, c13.2.2.2.1, c13.2.2.2.2.1, c13.2.2.2.2.2.1, c13.2.2.2.2.2.2))
 else
  some (w12.1, w12.2.1, w12.2.2.1, w12.2.2.2.1, w12.2.2.2.2.1, w12.2.2.2.2.2.1, w12.2.2.2.2.2.2.2, w12.2.2.2.2.2.2.1)
/-- (*lading/disk.Disk).settle$1 -/
noncomputable def disk_Disk_settle_1 [Fuel] (p1 : GSector) (p2 : Int) : Option Bool :=
 some (eqZ p1.1 p2)
/-- slices.IndexFunc[[]lading/disk.sector,lading/disk.sector] -/
noncomputable def slices_IndexFunc_disk_sector_disk_sector.b1 [Fuel] (s1 : List GSector) (p2 : Int) (v3 : Int) : Option ((Int) ⊕ (Int)) :=
 bif (ltZ v3 (s1.length : Int)) then
  ((idx s1 v3).bind fun v4 =>
  (disk_Disk_settle_1 v4 p2).bind fun v'5 =>
  bif v'5 then
   some (.inr v3)
  else
   ((z64 (v3 + 1)).bind fun v6 =>
   some (.inl v6)))
 else
  some (.inr (-1))
noncomputable def slices_IndexFunc_disk_sector_disk_sector [Fuel] (s1 : List GSector) (p2 : Int) : Option Int :=
 loopF (fun x => slices_IndexFunc_disk_sector_disk_sector.b1 s1 p2 x) 0
/-- slices.DeleteFunc[[]lading/disk.sector,lading/disk.sector] -/
noncomputable def slices_DeleteFunc_disk_sector_disk_sector.b1 [Fuel] (p1 : Int) (i5 : Int) (j6 : Int) (s7 : List GSector) : Option ((Int × Int × List GSector) ⊕ (List GSector)) :=
 bif (ltZ j6 (s7.length : Int)) then
  ((idx s7 j6).bind fun _8 =>
  (idx s7 j6).bind fun v9 =>
  (disk_Disk_settle_1 v9 p1).bind fun v'10 =>
  bif (!v'10) then
   ((idx s7 i5).bind fun _11 =>
   (idx s7 i5).bind fun v12 =>
   (z64 (i5 + 1)).bind fun v13 =>
   (z64 (j6 + 1)).bind fun v14 =>
   some (.inl (v13, v14, (s7.set i5.toNat v9))))
  else
   ((z64 (j6 + 1)).bind fun v15 =>
   some (.inl (i5, v15, s7))))
 else
  (Option.map Sum.inr ((cut s7 i5 (s7.length : Int)).bind fun _16 =>
  (need (i5.toNat ≤ (s7.length : Int).toNat ∧ (s7.length : Int).toNat ≤ s7.length)).bind fun _17 =>
  (cut (clrT s7 i5 (s7.length : Int) (0, 0)) 0 i5).bind fun l18 =>
  some l18))
noncomputable def slices_DeleteFunc_disk_sector_disk_sector [Fuel] (p1 : Int) (s2 : List GSector) : Option (List GSector) :=
 (slices_IndexFunc_disk_sector_disk_sector s2 p1).bind fun s3 =>
 bif (eqZ s3 (-1)) then
  some s2
 else
  ((z64 (s3 + 1)).bind fun v4 =>
  loopF (fun x => slices_DeleteFunc_disk_sector_disk_sector.b1 p1 x.1 x.2.1 x.2.2) (s3, v4, s2))
/-- (*lading/disk.Disk).settle$2 -/
noncomputable def disk_Disk_settle_2 [Fuel] (p1 : Int) (p2 : Int) (p3 : Bool) (p4 : Int) : Option Bool :=
 some (eqZ p1 p4)
/-- maps.DeleteFunc[map[lading/disk.sector]bool,lading/disk.sector,bool] -/
noncomputable def maps_DeleteFunc [Fuel] (f0 : Int) (m : List (GSector × Bool)) : Option (List (GSector × Bool)) := delM (fun x y => disk_Disk_settle_2 x.1 x.2 y f0) m
/-- (*lading/disk.Disk).settle -/
noncomputable def disk_Disk_settle [Fuel] (f1 : Int) (s2 : Bs) (d3 : Int) (d4 : Bool) (d5 : Int) (d6 : List Int) (p7 : List (Int × GFile)) (p8 : List GSector) (p9 : List (GSector × Bool)) : Option (Int × Bool × Int × (List Int) × (List GSector) × (List (Int × GFile)) × List (GSector × Bool)) :=
 (slices_DeleteFunc_disk_sector_disk_sector f1 p8).bind fun s10 =>
 (maps_DeleteFunc f1 p9).bind fun d11 =>
 some (d3, d4, d5, d6, s10, (putM p7 f1 (s2, s2)), d11)
/-- (*lading/disk.Disk).Sync -/
noncomputable def disk_Disk_Sync.j1 [Fuel] (f1 : Int) (d11 : Int) (d12 : Bool) (d13 : Int) (d14 : List Int) (v15 : List (Int × GFile)) (v16 : List GSector) (v17 : List (GSector × Bool)) : Option (Int × Int × Bool × Int × (List Int) × (List GSector) × (List (GSector × Bool)) × List (Int × GFile)) :=
 (disk_Disk_may f1 d11 d12 d13 d14 v15 v16 v17).bind fun m18 =>
 bif (!eqZ m18 0) then
  some (m18, d11, d12, d13, d14, v16, v17, v15)
 else
  (bif (ltZ 0 d11) then
   ((z64 (d11 - 1)).bind fun v19 =>
   some (9, v19, d12, d13, d14, v16, v17, v15))
  else
   ((disk_Disk_settle f1 (((lookM v15 f1).getD (([] : Bs), ([] : Bs))).1) d11 d12 d13 d14 v15 v16 v17).bind fun s20 =>
   some (0, s20.1, s20.2.1, s20.2.2.1, s20.2.2.2.1, s20.2.2.2.2.1, s20.2.2.2.2.2.2, s20.2.2.2.2.2.1)))
noncomputable def disk_Disk_Sync [Fuel] (f1 : Int) (d2 : Int) (d3 : Bool) (d4 : Int) (d5 : List Int) (p6 : List (Int × GFile)) (p7 : List GSector) (p8 : List (GSector × Bool)) : Option (Int × Int × Bool × Int × (List Int) × (List GSector) × (List (GSector × Bool)) × List (Int × GFile)) :=
 ((disk_Disk_ends d2 d3 d4 d5 p6 p7 p8).bind fun e9 =>
 bif e9.1 then
  ((disk_Disk_Crash e9.2.2.2.2.1 e9.2.1 e9.2.2.1 e9.2.2.2.1 e9.2.2.2.2.1 e9.2.2.2.2.2.1 e9.2.2.2.2.2.2.1 e9.2.2.2.2.2.2.2).bind fun c10 =>
  some (c10.1, c10.2.1, c10.2.2.1, c10.2.2.2.1, c10.2.2.2.2.2.2, c10.2.2.2.2.1, c10.2.2.2.2.2.1))
 else
  some (e9.2.1, e9.2.2.1, e9.2.2.2.1, e9.2.2.2.2.1, e9.2.2.2.2.2.1, e9.2.2.2.2.2.2.1, e9.2.2.2.2.2.2.2)).bind fun x =>
 disk_Disk_Sync.j1 f1 x.1 x.2.1 x.2.2.1 x.2.2.2.1 x.2.2.2.2.1 x.2.2.2.2.2.1 x.2.2.2.2.2.2
/-- maps.Clone[map[int]lading/disk.file,int,lading/disk.file] -/
noncomputable def maps_Clone [Fuel] (m : List (Int × GFile)) : Option (List (Int × GFile)) := some m
/-- slices.Clone[[]lading/disk.sector,lading/disk.sector] -/
noncomputable def slices_Clone_disk_sector_disk_sector [Fuel] (s1 : List GSector) : Option (List GSector) :=
 bothN s1 (
  some []) (
  (app? ([] : List GSector) s1).bind fun l2 =>
  some l2)
/-- maps.Clone[map[lading/disk.sector]bool,lading/disk.sector,bool] -/
noncomputable def maps_Clone_v2 [Fuel] (m : List (GSector × Bool)) : Option (List (GSector × Bool)) := some m
/-- (*lading/disk.Disk).Copy -/
noncomputable def disk_Disk_Copy [Fuel] (d1 : Int) (d2 : Bool) (d3 : Int) (d4 : List Int) (p5 : List (Int × GFile)) (p6 : List GSector) (p7 : List (GSector × Bool)) : Option (Int × Bool × Int × (List Int) × (List (Int × GFile)) × (List GSector) × List (GSector × Bool)) :=
 (maps_Clone p5).bind fun c8 =>
 (slices_Clone_disk_sector_disk_sector p6).bind fun s9 =>
 (maps_Clone_v2 p7).bind fun v10 =>
 some (d1, d2, d3, d4, c8, s9, v10)
/-- (*lading/disk.Disk).Down -/
noncomputable def disk_Disk_Down [Fuel] (d1 : Int) (d2 : Bool) (d3 : Int) (d4 : List Int) (p5 : List (Int × GFile)) (p6 : List GSector) (p7 : List (GSector × Bool)) : Option Bool :=
 some d2
/-- (*lading/disk.Disk).Read -/
noncomputable def disk_Disk_Read.j1 [Fuel] (f1 : Int) (at2 : Int) (size3 : Int) (p8 : List (Int × GFile)) (v12 : Bool) : Option (Bs × Int) :=
 bif v12 then
  some (([] : Bs), 1)
 else
  ((cut (((lookM p8 f1).getD (([] : Bs), ([] : Bs))).1) (min at2 ((((lookM p8 f1).getD (([] : Bs), ([] : Bs))).1).length : Int)) ((((lookM p8 f1).getD (([] : Bs), ([] : Bs))).1).length : Int)).bind fun s13 =>
  (cut s13 0 (min size3 (s13.length : Int))).bind fun s14 =>
  some (s14, 0))
noncomputable def disk_Disk_Read [Fuel] (f1 : Int) (at2 : Int) (size3 : Int) (d4 : Int) (d5 : Bool) (d6 : Int) (d7 : List Int) (p8 : List (Int × GFile)) (p9 : List GSector) (p10 : List (GSector × Bool)) : Option (Bs × Int) :=
 (disk_Disk_may f1 d4 d5 d6 d7 p8 p9 p10).bind fun m11 =>
 bif (!eqZ m11 0) then
  some (([] : Bs), m11)
 else
  ((bif (ltZ at2 0) then
   some true
  else
   some (ltZ size3 0)).bind fun x =>
  disk_Disk_Read.j1 f1 at2 size3 p8 x)
/-- (*lading/disk.Disk).Start -/
noncomputable def disk_Disk_Start [Fuel] (d1 : Int) (d2 : Bool) (d3 : Int) (d4 : List Int) (p5 : List (Int × GFile)) (p6 : List GSector) (p7 : List (GSector × Bool)) : Option (Int × Bool × Int × (List Int) × (List (Int × GFile)) × (List GSector) × List (GSector × Bool)) :=
 some (d1, false, d3, d4, p5, p6, p7)
/-- (*lading/disk.Disk).Size -/
noncomputable def disk_Disk_Size [Fuel] (f1 : Int) (d2 : Int) (d3 : Bool) (d4 : Int) (d5 : List Int) (p6 : List (Int × GFile)) (p7 : List GSector) (p8 : List (GSector × Bool)) : Option Int :=
 some ((((lookM p6 f1).getD (([] : Bs), ([] : Bs))).1).length : Int)
/-- lading/ladinglaw02.small -/
noncomputable def ladinglaw02_small.j1 [Fuel] (s16 : Int × Bool × Int × (List Int) × (List (Int × GFile)) × (List GSector) × List (GSector × Bool)) (r17 : Bs × Int) (v18 : Bool) : Option Bool :=
 bif v18 then
  (bif (decide (r17.1 = ([0, 0, 0, 0, 99, 100] : Bs))) then
   (bif (eqZ r17.2 0) then
    ((disk_Disk_Size 1 s16.1 s16.2.1 s16.2.2.1 s16.2.2.2.1 s16.2.2.2.2.1 s16.2.2.2.2.2.1 s16.2.2.2.2.2.2).bind fun s19 =>
    bif (eqZ s19 66) then
     ((disk_Disk_Write 16 0 ([] : Bs) s16.1 s16.2.1 s16.2.2.1 s16.2.2.2.1 s16.2.2.2.2.1 s16.2.2.2.2.2.1 s16.2.2.2.2.2.2).bind fun w20 =>
     bif (eqZ w20.1 1) then
      ((disk_Disk_Write 1 16777216 ([97] : Bs) w20.2.1 w20.2.2.1 w20.2.2.2.1 w20.2.2.2.2.1 w20.2.2.2.2.2.2.2 w20.2.2.2.2.2.1 w20.2.2.2.2.2.2.1).bind fun w21 =>
      some (eqZ w21.1 6))
     else
      some false)
    else
     some false)
   else
    some false)
  else
   some false)
 else
  some false
noncomputable def ladinglaw02_small [Fuel] : Option Bool :=
 (disk_New).bind fun n1 =>
 (disk_Disk_Write 0 0 ([97, 98, 99] : Bs) n1.1 n1.2.1 n1.2.2.1 n1.2.2.2.1 n1.2.2.2.2.1 n1.2.2.2.2.2.1 n1.2.2.2.2.2.2).bind fun w2 =>
 (disk_Disk_Sync 0 w2.2.1 w2.2.2.1 w2.2.2.2.1 w2.2.2.2.2.1 w2.2.2.2.2.2.2.2 w2.2.2.2.2.2.1 w2.2.2.2.2.2.2.1).bind fun s3 =>
 (disk_Disk_Write 0 1 ([88, 89] : Bs) s3.2.1 s3.2.2.1 s3.2.2.2.1 s3.2.2.2.2.1 s3.2.2.2.2.2.2.2 s3.2.2.2.2.2.1 s3.2.2.2.2.2.2.1).bind fun w4 =>
 (disk_Disk_Copy w4.2.1 w4.2.2.1 w4.2.2.2.1 w4.2.2.2.2.1 w4.2.2.2.2.2.2.2 w4.2.2.2.2.2.1 w4.2.2.2.2.2.2.1).bind fun c5 =>
 (disk_Disk_Crash ([1] : List Int) w4.2.1 w4.2.2.1 w4.2.2.2.1 w4.2.2.2.2.1 w4.2.2.2.2.2.2.2 w4.2.2.2.2.2.1 w4.2.2.2.2.2.2.1).bind fun c6 =>
 (disk_Disk_Down c6.1 c6.2.1 c6.2.2.1 c6.2.2.2.1 c6.2.2.2.2.2.2 c6.2.2.2.2.1 c6.2.2.2.2.2.1).bind fun d7 =>
 (disk_Disk_Read 0 0 9 c6.1 c6.2.1 c6.2.2.1 c6.2.2.2.1 c6.2.2.2.2.2.2 c6.2.2.2.2.1 c6.2.2.2.2.2.1).bind fun r8 =>
 (disk_Disk_Start c6.1 c6.2.1 c6.2.2.1 c6.2.2.2.1 c6.2.2.2.2.2.2 c6.2.2.2.2.1 c6.2.2.2.2.2.1).bind fun s9 =>
 (disk_Disk_Read 0 0 9 s9.1 s9.2.1 s9.2.2.1 s9.2.2.2.1 s9.2.2.2.2.1 s9.2.2.2.2.2.1 s9.2.2.2.2.2.2).bind fun r10 =>
 (disk_Disk_Crash ([0] : List Int) c5.1 c5.2.1 c5.2.2.1 c5.2.2.2.1 c5.2.2.2.2.1 c5.2.2.2.2.2.1 c5.2.2.2.2.2.2).bind fun c11 =>
 (disk_Disk_Start c11.1 c11.2.1 c11.2.2.1 c11.2.2.2.1 c11.2.2.2.2.2.2 c11.2.2.2.2.1 c11.2.2.2.2.2.1).bind fun s12 =>
 (disk_Disk_Read 0 1 9 s12.1 s12.2.1 s12.2.2.1 s12.2.2.2.1 s12.2.2.2.2.1 s12.2.2.2.2.2.1 s12.2.2.2.2.2.2).bind fun r13 =>
 (disk_Disk_Write 1 62 ([97, 98, 99, 100] : Bs) s12.1 s12.2.1 s12.2.2.1 s12.2.2.2.1 s12.2.2.2.2.1 s12.2.2.2.2.2.1 s12.2.2.2.2.2.2).bind fun w14 =>
 (disk_Disk_Crash ([0, 1] : List Int) w14.2.1 w14.2.2.1 w14.2.2.2.1 w14.2.2.2.2.1 w14.2.2.2.2.2.2.2 w14.2.2.2.2.2.1 w14.2.2.2.2.2.2.1).bind fun c15 =>
 (disk_Disk_Start c15.1 c15.2.1 c15.2.2.1 c15.2.2.2.1 c15.2.2.2.2.2.2 c15.2.2.2.2.1 c15.2.2.2.2.2.1).bind fun s16 =>
 (disk_Disk_Read 1 60 100 s16.1 s16.2.1 s16.2.2.1 s16.2.2.2.1 s16.2.2.2.2.1 s16.2.2.2.2.2.1 s16.2.2.2.2.2.2).bind fun r17 =>
 (bif (eqZ w2.1 0) then
  (bif (eqZ s3.1 0) then
   (bif d7 then
    (bif (eqZ r8.2 8) then
     (bif (decide (r10.1 = ([97, 88, 89] : Bs))) then
      (bif (eqZ r10.2 0) then
       (bif (decide (r13.1 = ([98, 99] : Bs))) then
        (bif (eqZ r13.2 0) then
         some (eqZ w14.1 0)
        else
         some false)
       else
        some false)
      else
       some false)
     else
      some false)
    else
     some false)
   else
    some false)
  else
   some false)
 else
  some false).bind fun x =>
 ladinglaw02_small.j1 s16 r17 x
/-- lading/ladinglaw02.few -/
noncomputable def ladinglaw02_few.j1 [Fuel] (i2 : Int) (v7 : Bool) : Option ((Int) ⊕ (Bool)) :=
 bif v7 then
  some (.inr false)
 else
  ((z64 (i2 + 1)).bind fun v8 =>
  some (.inl v8))
noncomputable def ladinglaw02_few.b1 [Fuel] (l1 : List GAct) (i2 : Int) : Option ((Int) ⊕ (Bool)) :=
 bif (ltZ i2 (l1.length : Int)) then
  (((idx l1 i2).bind fun v3 =>
  bif (ltZ 300 (v3.2.2.2.1.length : Int)) then
   some true
  else
   ((idx l1 i2).bind fun v4 =>
   bif (ltZ 60 (v4.2.2.2.2.length : Int)) then
    some true
   else
    ((idx l1 i2).bind fun v5 =>
    bif (ltZ 3000 v5.2.2.1) then
     ((idx l1 i2).bind fun v6 =>
     some (ltZ v6.2.2.1 16776916))
    else
     some false))).bind fun x =>
  ladinglaw02_few.j1 i2 x)
 else
  some (.inr (leZ (l1.length : Int) 40))
noncomputable def ladinglaw02_few [Fuel] (l1 : List GAct) : Option Bool :=
 loopF (fun x => ladinglaw02_few.b1 l1 x) 0
/-- (*lading/disk.Disk).Truncate -/
noncomputable def disk_Disk_Truncate.j1 [Fuel] (f1 : Int) (size2 : Int) (d12 : Int) (d13 : Bool) (d14 : Int) (d15 : List Int) (v16 : List (Int × GFile)) (v17 : List GSector) (v18 : List (GSector × Bool)) (v21 : Bool) : Option (Int × Int × Bool × Int × (List Int) × (List GSector) × (List (GSector × Bool)) × List (Int × GFile)) :=
 bif v21 then
  some (1, d12, d13, d14, d15, v17, v18, v16)
 else
  ((cut (((lookM v16 f1).getD (([] : Bs), ([] : Bs))).1) 0 size2).bind fun s22 =>
  (disk_Disk_settle f1 s22 d12 d13 d14 d15 v16 v17 v18).bind fun s23 =>
  some (0, s23.1, s23.2.1, s23.2.2.1, s23.2.2.2.1, s23.2.2.2.2.1, s23.2.2.2.2.2.2, s23.2.2.2.2.2.1))
noncomputable def disk_Disk_Truncate.j2 [Fuel] (f1 : Int) (size2 : Int) (d12 : Int) (d13 : Bool) (d14 : Int) (d15 : List Int) (v16 : List (Int × GFile)) (v17 : List GSector) (v18 : List (GSector × Bool)) : Option (Int × Int × Bool × Int × (List Int) × (List GSector) × (List (GSector × Bool)) × List (Int × GFile)) :=
 (disk_Disk_may f1 d12 d13 d14 d15 v16 v17 v18).bind fun m19 =>
 bif (!eqZ m19 0) then
  some (m19, d12, d13, d14, d15, v17, v18, v16)
 else
  ((bif (ltZ size2 0) then
   some true
  else
   ((disk_Disk_Size f1 d12 d13 d14 d15 v16 v17 v18).bind fun s20 =>
   some (ltZ s20 size2))).bind fun x =>
  disk_Disk_Truncate.j1 f1 size2 d12 d13 d14 d15 v16 v17 v18 x)
noncomputable def disk_Disk_Truncate [Fuel] (f1 : Int) (size2 : Int) (d3 : Int) (d4 : Bool) (d5 : Int) (d6 : List Int) (p7 : List (Int × GFile)) (p8 : List GSector) (p9 : List (GSector × Bool)) : Option (Int × Int × Bool × Int × (List Int) × (List GSector) × (List (GSector × Bool)) × List (Int × GFile)) :=
 ((disk_Disk_ends d3 d4 d5 d6 p7 p8 p9).bind fun e10 =>
 bif e10.1 then
  ((disk_Disk_Crash e10.2.2.2.2.1 e10.2.1 e10.2.2.1 e10.2.2.2.1 e10.2.2.2.2.1 e10.2.2.2.2.2.1 e10.2.2.2.2.2.2.1 e10.2.2.2.2.2.2.2).bind fun c11 =>
  some (c11.1, c11.2.1, c11.2.2.1, c11.2.2.2.1, c11.2.2.2.2.2.2, c11.2.2.2.2.1, c11.2.2.2.2.2.1))
 else
  some (e10.2.1, e10.2.2.1, e10.2.2.2.1, e10.2.2.2.2.1, e10.2.2.2.2.2.1, e10.2.2.2.2.2.2.1, e10.2.2.2.2.2.2.2)).bind fun x =>
 disk_Disk_Truncate.j2 f1 size2 x.1 x.2.1 x.2.2.1 x.2.2.2.1 x.2.2.2.2.1 x.2.2.2.2.2.1 x.2.2.2.2.2.2
/-- (*lading/disk.Disk).Lose -/
noncomputable def disk_Disk_Lose [Fuel] (n1 : Int) (d2 : Int) (d3 : Bool) (d4 : Int) (d5 : List Int) (p6 : List (Int × GFile)) (p7 : List GSector) (p8 : List (GSector × Bool)) : Option (Int × Bool × Int × (List Int) × (List (Int × GFile)) × (List GSector) × List (GSector × Bool)) :=
 some ((max n1 0), d3, d4, d5, p6, p7, p8)
/-- slices.Clone[[]int,int] -/
noncomputable def slices_Clone_int_int [Fuel] (s1 : List Int) : Option (List Int) :=
 bothN s1 (
  some []) (
  (app? ([] : List Int) s1).bind fun l2 =>
  some l2)
/-- (*lading/disk.Disk).Arm -/
noncomputable def disk_Disk_Arm [Fuel] (n1 : Int) (keep2 : List Int) (d3 : Int) (d4 : Bool) (d5 : Int) (d6 : List Int) (p7 : List (Int × GFile)) (p8 : List GSector) (p9 : List (GSector × Bool)) : Option (Int × Bool × Int × (List Int) × (List (Int × GFile)) × (List GSector) × List (GSector × Bool)) :=
 (slices_Clone_int_int keep2).bind fun i10 =>
 some (d3, d4, (max n1 0), i10, p7, p8, p9)
/-- lading/ladinglaw02.do -/
noncomputable def ladinglaw02_do [Fuel] (a1 : GAct) (d2 : Int) (d3 : Bool) (d4 : Int) (d5 : List Int) (p6 : List (Int × GFile)) (p7 : List GSector) (p8 : List (GSector × Bool)) : Option (Int × Int × Bool × Int × (List Int) × (List GSector) × (List (GSector × Bool)) × List (Int × GFile)) :=
 bif (eqZ (andI .i64 a1.1 7) 2) then
  ((disk_Disk_Sync a1.2.1 d2 d3 d4 d5 p6 p7 p8).bind fun s9 =>
  some (s9.1, s9.2.1, s9.2.2.1, s9.2.2.2.1, s9.2.2.2.2.1, s9.2.2.2.2.2.1, s9.2.2.2.2.2.2.1, s9.2.2.2.2.2.2.2))
 else
  (bif (eqZ (andI .i64 a1.1 7) 3) then
   ((disk_Disk_Truncate a1.2.1 a1.2.2.1 d2 d3 d4 d5 p6 p7 p8).bind fun t10 =>
   some (t10.1, t10.2.1, t10.2.2.1, t10.2.2.2.1, t10.2.2.2.2.1, t10.2.2.2.2.2.1, t10.2.2.2.2.2.2.1, t10.2.2.2.2.2.2.2))
  else
   (bif (eqZ (andI .i64 a1.1 7) 4) then
    ((disk_Disk_Lose (andI .i64 a1.2.2.1 3) d2 d3 d4 d5 p6 p7 p8).bind fun l11 =>
    some (0, l11.1, l11.2.1, l11.2.2.1, l11.2.2.2.1, l11.2.2.2.2.2.1, l11.2.2.2.2.2.2, l11.2.2.2.2.1))
   else
    (bif (eqZ (andI .i64 a1.1 7) 5) then
     ((disk_Disk_Arm a1.2.2.1 a1.2.2.2.2 d2 d3 d4 d5 p6 p7 p8).bind fun a12 =>
     some (0, a12.1, a12.2.1, a12.2.2.1, a12.2.2.2.1, a12.2.2.2.2.2.1, a12.2.2.2.2.2.2, a12.2.2.2.2.1))
    else
     (bif (eqZ (andI .i64 a1.1 7) 6) then
      ((disk_Disk_Crash a1.2.2.2.2 d2 d3 d4 d5 p6 p7 p8).bind fun c13 =>
      some (0, c13.1, c13.2.1, c13.2.2.1, c13.2.2.2.1, c13.2.2.2.2.1, c13.2.2.2.2.2.1, c13.2.2.2.2.2.2))
     else
      (bif (eqZ (andI .i64 a1.1 7) 7) then
       ((disk_Disk_Start d2 d3 d4 d5 p6 p7 p8).bind fun s14 =>
       some (0, s14.1, s14.2.1, s14.2.2.1, s14.2.2.2.1, s14.2.2.2.2.2.1, s14.2.2.2.2.2.2, s14.2.2.2.2.1))
      else
       ((disk_Disk_Write a1.2.1 a1.2.2.1 a1.2.2.2.1 d2 d3 d4 d5 p6 p7 p8).bind fun w15 =>
       some (w15.1, w15.2.1, w15.2.2.1, w15.2.2.2.1, w15.2.2.2.2.1, w15.2.2.2.2.2.1, w15.2.2.2.2.2.2.1, w15.2.2.2.2.2.2.2)))))))
/-- lading/ladinglaw02.played -/
noncomputable def ladinglaw02_played.j1 [Fuel] (l1 : List GAct) (i3 : Int) (d4 : Int) (d5 : Bool) (d6 : Int) (d7 : List Int) (v8 : List (Int × GFile)) (v9 : List GSector) (v10 : List (GSector × Bool)) (v11 : Bool) : Option ((Int × Int × Bool × Int × (List Int) × (List (Int × GFile)) × (List GSector) × List (GSector × Bool)) ⊕ (Int × Bool × Int × (List Int) × (List (Int × GFile)) × (List GSector) × List (GSector × Bool))) :=
 bif v11 then
  ((idx l1 i3).bind fun v12 =>
  (ladinglaw02_do v12 d4 d5 d6 d7 v8 v9 v10).bind fun d13 =>
  (z64 (i3 + 1)).bind fun v14 =>
  some (.inl (v14, d13.2.1, d13.2.2.1, d13.2.2.2.1, d13.2.2.2.2.1, d13.2.2.2.2.2.2.2, d13.2.2.2.2.2.1, d13.2.2.2.2.2.2.1)))
 else
  some (.inr (d4, d5, d6, d7, v8, v9, v10))
noncomputable def ladinglaw02_played.b1 [Fuel] (l1 : List GAct) (i3 : Int) (d4 : Int) (d5 : Bool) (d6 : Int) (d7 : List Int) (v8 : List (Int × GFile)) (v9 : List GSector) (v10 : List (GSector × Bool)) : Option ((Int × Int × Bool × Int × (List Int) × (List (Int × GFile)) × (List GSector) × List (GSector × Bool)) ⊕ (Int × Bool × Int × (List Int) × (List (Int × GFile)) × (List GSector) × List (GSector × Bool))) :=
 (bif (ltZ i3 (l1.length : Int)) then
  some true
 else
  some false).bind fun x =>
 ladinglaw02_played.j1 l1 i3 d4 d5 d6 d7 v8 v9 v10 x
noncomputable def ladinglaw02_played [Fuel] (l1 : List GAct) : Option (Int × Bool × Int × (List Int) × (List (Int × GFile)) × (List GSector) × List (GSector × Bool)) :=
 (disk_New).bind fun n2 =>
 loopF (fun x => ladinglaw02_played.b1 l1 x.1 x.2.1 x.2.2.1 x.2.2.2.1 x.2.2.2.2.1 x.2.2.2.2.2.1 x.2.2.2.2.2.2.1 x.2.2.2.2.2.2.2) (0, n2.1, n2.2.1, n2.2.2.1, n2.2.2.2.1, n2.2.2.2.2.1, n2.2.2.2.2.2.1, n2.2.2.2.2.2.2)
/-- lading/ladinglaw02.DiskReads -/
noncomputable def ladinglaw02_DiskReads.j1 [Fuel] (p2 : Int) (p3 : Int) (p5 : Int) (s6 : Bool) (w14 : Int × Int × Bool × Int × (List Int) × (List GSector) × (List (GSector × Bool)) × List (Int × GFile)) (r17 : Bs × Int) (r18 : Bs × Int) (v20 : Bool) : Option Bool :=
 bif v20 then
  some false
 else
  ((z64 ((r17.1.length : Int) - (min p3 (r17.1.length : Int)))).bind fun v21 =>
  (z64 ((min p3 (r17.1.length : Int)) + (min p5 v21))).bind fun v22 =>
  (cut r17.1 (min p3 (r17.1.length : Int)) v22).bind fun s23 =>
  bif (!decide (r18.1 = s23)) then
   some false
  else
   ((disk_Disk_Truncate p2 (min p3 (r17.1.length : Int)) w14.2.1 w14.2.2.1 w14.2.2.2.1 w14.2.2.2.2.1 w14.2.2.2.2.2.2.2 w14.2.2.2.2.2.1 w14.2.2.2.2.2.2.1).bind fun t24 =>
   (disk_Disk_Crash [] t24.2.1 t24.2.2.1 t24.2.2.2.1 t24.2.2.2.2.1 t24.2.2.2.2.2.2.2 t24.2.2.2.2.2.1 t24.2.2.2.2.2.2.1).bind fun c25 =>
   (disk_Disk_Start c25.1 c25.2.1 c25.2.2.1 c25.2.2.2.1 c25.2.2.2.2.2.2 c25.2.2.2.2.1 c25.2.2.2.2.2.1).bind fun s26 =>
   (disk_Disk_Read p2 0 16777216 s26.1 s26.2.1 s26.2.2.1 s26.2.2.2.1 s26.2.2.2.2.1 s26.2.2.2.2.2.1 s26.2.2.2.2.2.2).bind fun r27 =>
   bif s6 then
    (bif (eqZ t24.1 0) then
     (bif (eqZ r27.2 0) then
      ((cut r17.1 0 (min p3 (r17.1.length : Int))).bind fun s28 =>
      some (decide (r27.1 = s28)))
     else
      some false)
    else
     some false)
   else
    some false))
noncomputable def ladinglaw02_DiskReads.j2 [Fuel] (p2 : Int) (p3 : Int) (p4 : Bs) (p5 : Int) (s6 : Bool) (a10 : Int × Bool × Int × (List Int) × (List (Int × GFile)) × (List GSector) × List (GSector × Bool)) (v12 : Bool) : Option Bool :=
 bif v12 then
  (bif s6 then
   ((disk_Disk_Write p2 p3 p4 a10.1 a10.2.1 a10.2.2.1 a10.2.2.2.1 a10.2.2.2.2.1 a10.2.2.2.2.2.1 a10.2.2.2.2.2.2).bind fun w13 =>
   some (!eqZ w13.1 0))
  else
   some false)
 else
  ((disk_Disk_Write p2 p3 p4 a10.1 a10.2.1 a10.2.2.1 a10.2.2.2.1 a10.2.2.2.2.1 a10.2.2.2.2.2.1 a10.2.2.2.2.2.2).bind fun w14 =>
  (disk_Disk_Read p2 p3 (p4.length : Int) w14.2.1 w14.2.2.1 w14.2.2.2.1 w14.2.2.2.2.1 w14.2.2.2.2.2.2.2 w14.2.2.2.2.2.1 w14.2.2.2.2.2.2.1).bind fun r15 =>
  (disk_Disk_Size p2 w14.2.1 w14.2.2.1 w14.2.2.2.1 w14.2.2.2.2.1 w14.2.2.2.2.2.2.2 w14.2.2.2.2.2.1 w14.2.2.2.2.2.2.1).bind fun s16 =>
  (disk_Disk_Read p2 0 s16 w14.2.1 w14.2.2.1 w14.2.2.2.1 w14.2.2.2.2.1 w14.2.2.2.2.2.2.2 w14.2.2.2.2.2.1 w14.2.2.2.2.2.2.1).bind fun r17 =>
  (disk_Disk_Read p2 p3 p5 w14.2.1 w14.2.2.1 w14.2.2.2.1 w14.2.2.2.2.1 w14.2.2.2.2.2.2.2 w14.2.2.2.2.2.1 w14.2.2.2.2.2.2.1).bind fun r18 =>
  (bif (!eqZ w14.1 0) then
   some true
  else
   (bif (!eqZ r15.2 0) then
    some true
   else
    (bif (!eqZ r17.2 0) then
     some true
    else
     (bif (!eqZ r18.2 0) then
      some true
     else
      (bif (!decide (r15.1 = p4)) then
       some true
      else
       ((disk_Disk_Size p2 w14.2.1 w14.2.2.1 w14.2.2.2.1 w14.2.2.2.2.1 w14.2.2.2.2.2.2.2 w14.2.2.2.2.2.1 w14.2.2.2.2.2.2.1).bind fun s19 =>
       some (!eqZ (r17.1.length : Int) s19))))))).bind fun x =>
  ladinglaw02_DiskReads.j1 p2 p3 p5 s6 w14 r17 r18 x)
noncomputable def ladinglaw02_DiskReads.j3 [Fuel] (l1 : List GAct) (p2 : Int) (p3 : Int) (p4 : Bs) (p5 : Int) (s6 : Bool) (v8 : Bool) : Option Bool :=
 bif v8 then
  some s6
 else
  ((ladinglaw02_played l1).bind fun p9 =>
  (disk_Disk_Arm 0 [] p9.1 p9.2.1 p9.2.2.1 p9.2.2.2.1 p9.2.2.2.2.1 p9.2.2.2.2.2.1 p9.2.2.2.2.2.2).bind fun a10 =>
  ((disk_Disk_Down a10.1 a10.2.1 a10.2.2.1 a10.2.2.2.1 a10.2.2.2.2.1 a10.2.2.2.2.2.1 a10.2.2.2.2.2.2).bind fun d11 =>
  bif d11 then
   some true
  else
   (bif (ltZ p2 0) then
    some true
   else
    some (ltZ 15 p2))).bind fun x =>
  ladinglaw02_DiskReads.j2 p2 p3 p4 p5 s6 a10 x)
noncomputable def ladinglaw02_DiskReads [Fuel] (l1 : List GAct) (p2 : Int) (p3 : Int) (p4 : Bs) (p5 : Int) : Option Bool :=
 (ladinglaw02_small).bind fun s6 =>
 ((ladinglaw02_few l1).bind fun f7 =>
 bif (!f7) then
  some true
 else
  (bif (ltZ 300 (p4.length : Int)) then
   some true
  else
   (bif (ltZ p3 0) then
    some true
   else
    (bif (ltZ 3000 p3) then
     some true
    else
     some (ltZ p5 0))))).bind fun x =>
 ladinglaw02_DiskReads.j3 l1 p2 p3 p4 p5 s6 x
/-- lading/ladinglaw02.after -/
noncomputable def ladinglaw02_after [Fuel] (f1 : Int) (keep2 : List Int) (d3 : Int) (d4 : Bool) (d5 : Int) (d6 : List Int) (p7 : List (Int × GFile)) (p8 : List GSector) (p9 : List (GSector × Bool)) : Option (Bs × Bool) :=
 (disk_Disk_Copy d3 d4 d5 d6 p7 p8 p9).bind fun c10 =>
 (disk_Disk_Crash keep2 c10.1 c10.2.1 c10.2.2.1 c10.2.2.2.1 c10.2.2.2.2.1 c10.2.2.2.2.2.1 c10.2.2.2.2.2.2).bind fun c11 =>
 (disk_Disk_Start c11.1 c11.2.1 c11.2.2.1 c11.2.2.2.1 c11.2.2.2.2.2.2 c11.2.2.2.2.1 c11.2.2.2.2.2.1).bind fun s12 =>
 (disk_Disk_Read f1 0 16777216 s12.1 s12.2.1 s12.2.2.1 s12.2.2.2.1 s12.2.2.2.2.1 s12.2.2.2.2.2.1 s12.2.2.2.2.2.2).bind fun r13 =>
 some (r13.1, (eqZ r13.2 0))
/-- lading/ladinglaw02.byteAt -/
noncomputable def ladinglaw02_byteAt.j1 [Fuel] (s1 : Bs) (i2 : Int) (v3 : Bool) : Option Int :=
 bif v3 then
  some 0
 else
  ((bAt s1 i2).bind fun c4 =>
  some c4)
noncomputable def ladinglaw02_byteAt [Fuel] (s1 : Bs) (i2 : Int) : Option Int :=
 (bif (ltZ i2 0) then
  some true
 else
  some (leZ (s1.length : Int) i2)).bind fun x =>
 ladinglaw02_byteAt.j1 s1 i2 x
/-- lading/ladinglaw02.DiskSurvives -/
noncomputable def ladinglaw02_DiskSurvives.j1 [Fuel] (a12 : Bs × Bool) (a14 : Bs × Bool) (v20 : Bool) (v21 : Int) (v27 : Bool) : Option ((Bool × Bool × Int) ⊕ (Bool × Bool)) :=
 bif v20 then
  ((bAt a14.1 v21).bind fun c28 =>
  (ladinglaw02_byteAt a12.1 v21).bind fun b29 =>
  (z64 (v21 + 1)).bind fun v30 =>
  some (.inl (v27, (eqZ c28 b29), v30)))
 else
  ((z64 (v21 + 1)).bind fun v31 =>
  some (.inl (v27, false, v31)))
noncomputable def ladinglaw02_DiskSurvives.j2 [Fuel] (r11 : Bs × Int) (a12 : Bs × Bool) (a14 : Bs × Bool) (v19 : Bool) (v20 : Bool) (v21 : Int) (v24 : Bool) : Option ((Bool × Bool × Int) ⊕ (Bool × Bool)) :=
 bif v24 then
  ((bif v19 then
   ((bAt a14.1 v21).bind fun c25 =>
   (bAt r11.1 v21).bind fun c26 =>
   some (eqZ c25 c26))
  else
   some false).bind fun x =>
  ladinglaw02_DiskSurvives.j1 a12 a14 v20 v21 x)
 else
  some (.inr (v19, v20))
noncomputable def ladinglaw02_DiskSurvives.b1 [Fuel] (r11 : Bs × Int) (a12 : Bs × Bool) (a14 : Bs × Bool) (v16 : Int) (v19 : Bool) (v20 : Bool) (v21 : Int) : Option ((Bool × Bool × Int) ⊕ (Bool × Bool)) :=
 ((z64 ((64 : Int) * v16)).bind fun v22 =>
 (z64 (v22 + 64)).bind fun v23 =>
 bif (ltZ v21 v23) then
  some (ltZ v21 (a14.1.length : Int))
 else
  some false).bind fun x =>
 ladinglaw02_DiskSurvives.j2 r11 a12 a14 v19 v20 v21 x
noncomputable def ladinglaw02_DiskSurvives.j3 [Fuel] (v16 : Int) (v34 : Bool) : Option ((Int) ⊕ (Bool)) :=
 bif v34 then
  some (.inr false)
 else
  ((z64 (v16 + 1)).bind fun v35 =>
  some (.inl v35))
noncomputable def ladinglaw02_DiskSurvives.j4 [Fuel] (v16 : Int) (v32 : Bool) (v33 : Bool) : Option ((Int) ⊕ (Bool)) :=
 (bif (!v32) then
  some (!v33)
 else
  some false).bind fun x =>
 ladinglaw02_DiskSurvives.j3 v16 x
noncomputable def ladinglaw02_DiskSurvives.b2 [Fuel] (s4 : Bool) (r11 : Bs × Int) (a12 : Bs × Bool) (a14 : Bs × Bool) (v16 : Int) : Option ((Int) ⊕ (Bool)) :=
 (z64 ((64 : Int) * v16)).bind fun v17 =>
 bif (ltZ v17 (a14.1.length : Int)) then
  (((z64 ((64 : Int) * v16)).bind fun v18 =>
  loopF (fun x => ladinglaw02_DiskSurvives.b1 r11 a12 a14 v16 x.1 x.2.1 x.2.2) (true, true, v18)).bind fun x =>
  ladinglaw02_DiskSurvives.j4 v16 x.1 x.2)
 else
  some (.inr s4)
noncomputable def ladinglaw02_DiskSurvives.j5 [Fuel] (s4 : Bool) (r11 : Bs × Int) (a12 : Bs × Bool) (a14 : Bs × Bool) (v15 : Bool) : Option Bool :=
 bif v15 then
  some false
 else
  (loopF (fun x => ladinglaw02_DiskSurvives.b2 s4 r11 a12 a14 x) 0)
noncomputable def ladinglaw02_DiskSurvives.j6 [Fuel] (p2 : Int) (p3 : List Int) (s4 : Bool) (p7 : Int × Bool × Int × (List Int) × (List (Int × GFile)) × (List GSector) × List (GSector × Bool)) (v10 : Bool) : Option Bool :=
 bif v10 then
  some s4
 else
  ((disk_Disk_Read p2 0 16777216 p7.1 p7.2.1 p7.2.2.1 p7.2.2.2.1 p7.2.2.2.2.1 p7.2.2.2.2.2.1 p7.2.2.2.2.2.2).bind fun r11 =>
  (ladinglaw02_after p2 [] p7.1 p7.2.1 p7.2.2.1 p7.2.2.2.1 p7.2.2.2.2.1 p7.2.2.2.2.2.1 p7.2.2.2.2.2.2).bind fun a12 =>
  (ladinglaw02_after p2 ([1] : List Int) p7.1 p7.2.1 p7.2.2.1 p7.2.2.2.1 p7.2.2.2.2.1 p7.2.2.2.2.2.1 p7.2.2.2.2.2.2).bind fun a13 =>
  (ladinglaw02_after p2 p3 p7.1 p7.2.1 p7.2.2.1 p7.2.2.2.1 p7.2.2.2.2.1 p7.2.2.2.2.2.1 p7.2.2.2.2.2.2).bind fun a14 =>
  (bif (!eqZ r11.2 0) then
   some true
  else
   (bif (!a12.2) then
    some true
   else
    (bif (!a13.2) then
     some true
    else
     (bif (!a14.2) then
      some true
     else
      (bif (!decide (a13.1 = r11.1)) then
       some true
      else
       (bif (ltZ (a14.1.length : Int) (a12.1.length : Int)) then
        some true
       else
        some (ltZ (r11.1.length : Int) (a14.1.length : Int)))))))).bind fun x =>
  ladinglaw02_DiskSurvives.j5 s4 r11 a12 a14 x)
noncomputable def ladinglaw02_DiskSurvives.j7 [Fuel] (l1 : List GAct) (p2 : Int) (p3 : List Int) (s4 : Bool) (v6 : Bool) : Option Bool :=
 bif v6 then
  some s4
 else
  ((ladinglaw02_played l1).bind fun p7 =>
  ((disk_Disk_Down p7.1 p7.2.1 p7.2.2.1 p7.2.2.2.1 p7.2.2.2.2.1 p7.2.2.2.2.2.1 p7.2.2.2.2.2.2).bind fun d8 =>
  bif d8 then
   some true
  else
   (bif (ltZ p2 0) then
    some true
   else
    (bif (ltZ 15 p2) then
     some true
    else
     ((disk_Disk_Size p2 p7.1 p7.2.1 p7.2.2.1 p7.2.2.2.1 p7.2.2.2.2.1 p7.2.2.2.2.2.1 p7.2.2.2.2.2.2).bind fun s9 =>
     some (ltZ 100000 s9))))).bind fun x =>
  ladinglaw02_DiskSurvives.j6 p2 p3 s4 p7 x)
noncomputable def ladinglaw02_DiskSurvives [Fuel] (l1 : List GAct) (p2 : Int) (p3 : List Int) : Option Bool :=
 (ladinglaw02_small).bind fun s4 =>
 ((ladinglaw02_few l1).bind fun f5 =>
 bif (!f5) then
  some true
 else
  some (ltZ 60 (p3.length : Int))).bind fun x =>
 ladinglaw02_DiskSurvives.j7 l1 p2 p3 s4 x
/-- lading/ladinglaw02.DiskSynced -/
noncomputable def ladinglaw02_DiskSynced.j1 [Fuel] (p3 : List GAct) (v13 : Int) (v14 : Int) (v15 : Bool) (v16 : Int) (v17 : List Int) (v18 : List (Int × GFile)) (v19 : List GSector) (v20 : List (GSector × Bool)) (v23 : Bool) : Option ((Int × Int × Bool × Int × (List Int) × (List (Int × GFile)) × (List GSector) × List (GSector × Bool)) ⊕ (Int × Bool × Int × (List Int) × (List (Int × GFile)) × (List GSector) × List (GSector × Bool))) :=
 bif v23 then
  ((idx p3 v13).bind fun v24 =>
  (ladinglaw02_do v24 v14 v15 v16 v17 v18 v19 v20).bind fun d25 =>
  (z64 (v13 + 1)).bind fun v26 =>
  some (.inl (v26, d25.2.1, d25.2.2.1, d25.2.2.2.1, d25.2.2.2.2.1, d25.2.2.2.2.2.2.2, d25.2.2.2.2.2.1, d25.2.2.2.2.2.2.1)))
 else
  ((z64 (v13 + 1)).bind fun v27 =>
  some (.inl (v27, v14, v15, v16, v17, v18, v19, v20)))
noncomputable def ladinglaw02_DiskSynced.b1 [Fuel] (p2 : Int) (p3 : List GAct) (v13 : Int) (v14 : Int) (v15 : Bool) (v16 : Int) (v17 : List Int) (v18 : List (Int × GFile)) (v19 : List GSector) (v20 : List (GSector × Bool)) : Option ((Int × Int × Bool × Int × (List Int) × (List (Int × GFile)) × (List GSector) × List (GSector × Bool)) ⊕ (Int × Bool × Int × (List Int) × (List (Int × GFile)) × (List GSector) × List (GSector × Bool))) :=
 bif (ltZ v13 (p3.length : Int)) then
  ((idx p3 v13).bind fun v21 =>
  (bif (ltZ (andI .i64 v21.1 7) 4) then
   ((idx p3 v13).bind fun v22 =>
   bif (!eqZ v22.2.1 p2) then
    some true
   else
    some (eqZ (andI .i64 v21.1 7) 4))
  else
   some (eqZ (andI .i64 v21.1 7) 4)).bind fun x =>
  ladinglaw02_DiskSynced.j1 p3 v13 v14 v15 v16 v17 v18 v19 v20 x)
 else
  some (.inr (v14, v15, v16, v17, v18, v19, v20))
noncomputable def ladinglaw02_DiskSynced.j2 [Fuel] (p2 : Int) (p4 : List Int) (s5 : Bool) (r10 : Bs × Int) (r12 : Bs × Int) (v28 : Int) (v29 : Bool) (v30 : Int) (v31 : List Int) (v32 : List (Int × GFile)) (v33 : List GSector) (v34 : List (GSector × Bool)) : Option Bool :=
 (disk_Disk_Crash p4 v28 v29 v30 v31 v32 v33 v34).bind fun c35 =>
 (disk_Disk_Start c35.1 c35.2.1 c35.2.2.1 c35.2.2.2.1 c35.2.2.2.2.2.2 c35.2.2.2.2.1 c35.2.2.2.2.2.1).bind fun s36 =>
 (disk_Disk_Read p2 0 16777216 s36.1 s36.2.1 s36.2.2.1 s36.2.2.2.1 s36.2.2.2.2.1 s36.2.2.2.2.2.1 s36.2.2.2.2.2.2).bind fun r37 =>
 bif s5 then
  (bif (eqZ r12.2 0) then
   (bif (eqZ r37.2 0) then
    (bif (decide (r10.1 = r12.1)) then
     some (decide (r37.1 = r12.1))
    else
     some false)
   else
    some false)
  else
   some false)
 else
  some false
noncomputable def ladinglaw02_DiskSynced.j3 [Fuel] (l1 : List GAct) (p2 : Int) (p3 : List GAct) (p4 : List Int) (s5 : Bool) (v8 : Bool) : Option Bool :=
 bif v8 then
  some s5
 else
  ((ladinglaw02_played l1).bind fun p9 =>
  (disk_Disk_Read p2 0 16777216 p9.1 p9.2.1 p9.2.2.1 p9.2.2.2.1 p9.2.2.2.2.1 p9.2.2.2.2.2.1 p9.2.2.2.2.2.2).bind fun r10 =>
  (disk_Disk_Sync p2 p9.1 p9.2.1 p9.2.2.1 p9.2.2.2.1 p9.2.2.2.2.1 p9.2.2.2.2.2.1 p9.2.2.2.2.2.2).bind fun s11 =>
  bif (!eqZ s11.1 0) then
   some s5
  else
   ((disk_Disk_Read p2 0 16777216 s11.2.1 s11.2.2.1 s11.2.2.2.1 s11.2.2.2.2.1 s11.2.2.2.2.2.2.2 s11.2.2.2.2.2.1 s11.2.2.2.2.2.2.1).bind fun r12 =>
   (loopF (fun x => ladinglaw02_DiskSynced.b1 p2 p3 x.1 x.2.1 x.2.2.1 x.2.2.2.1 x.2.2.2.2.1 x.2.2.2.2.2.1 x.2.2.2.2.2.2.1 x.2.2.2.2.2.2.2) (0, s11.2.1, s11.2.2.1, s11.2.2.2.1, s11.2.2.2.2.1, s11.2.2.2.2.2.2.2, s11.2.2.2.2.2.1, s11.2.2.2.2.2.2.1)).bind fun x =>
   ladinglaw02_DiskSynced.j2 p2 p4 s5 r10 r12 x.1 x.2.1 x.2.2.1 x.2.2.2.1 x.2.2.2.2.1 x.2.2.2.2.2.1 x.2.2.2.2.2.2))
noncomputable def ladinglaw02_DiskSynced [Fuel] (l1 : List GAct) (p2 : Int) (p3 : List GAct) (p4 : List Int) : Option Bool :=
 (ladinglaw02_small).bind fun s5 =>
 ((ladinglaw02_few l1).bind fun f6 =>
 bif (!f6) then
  some true
 else
  ((ladinglaw02_few p3).bind fun f7 =>
  bif (!f7) then
   some true
  else
   some (ltZ 60 (p4.length : Int)))).bind fun x =>
 ladinglaw02_DiskSynced.j3 l1 p2 p3 p4 s5 x
/-- lading/ladinglaw02.same -/
noncomputable def ladinglaw02_same.j1 [Fuel] (v18 : Int) (v27 : Bool) : Option ((Int) ⊕ (Bool)) :=
 bif v27 then
  some (.inr false)
 else
  ((z64 (v18 + 1)).bind fun v28 =>
  some (.inl v28))
noncomputable def ladinglaw02_same.b1 [Fuel] (p1 : List GAct) (a2 : Int) (a3 : Bool) (a4 : Int) (a5 : List Int) (p6 : List (Int × GFile)) (p7 : List GSector) (p8 : List (GSector × Bool)) (p9 : Int) (p10 : Bool) (p11 : Int) (p12 : List Int) (p13 : List (Int × GFile)) (p14 : List GSector) (p15 : List (GSector × Bool)) (v18 : Int) : Option ((Int) ⊕ (Bool)) :=
 bif (ltZ v18 (p1.length : Int)) then
  ((idx p1 v18).bind fun v19 =>
  (disk_Disk_Read v19.2.1 0 16777216 a2 a3 a4 a5 p6 p7 p8).bind fun r20 =>
  (idx p1 v18).bind fun v21 =>
  (disk_Disk_Read v21.2.1 0 16777216 p9 p10 p11 p12 p13 p14 p15).bind fun r22 =>
  (bif (!decide (r20.1 = r22.1)) then
   some true
  else
   (bif (!eqZ r20.2 r22.2) then
    some true
   else
    ((idx p1 v18).bind fun v23 =>
    (disk_Disk_Size v23.2.1 a2 a3 a4 a5 p6 p7 p8).bind fun s24 =>
    (idx p1 v18).bind fun v25 =>
    (disk_Disk_Size v25.2.1 p9 p10 p11 p12 p13 p14 p15).bind fun s26 =>
    some (!eqZ s24 s26)))).bind fun x =>
  ladinglaw02_same.j1 v18 x)
 else
  some (.inr true)
noncomputable def ladinglaw02_same [Fuel] (p1 : List GAct) (a2 : Int) (a3 : Bool) (a4 : Int) (a5 : List Int) (p6 : List (Int × GFile)) (p7 : List GSector) (p8 : List (GSector × Bool)) (p9 : Int) (p10 : Bool) (p11 : Int) (p12 : List Int) (p13 : List (Int × GFile)) (p14 : List GSector) (p15 : List (GSector × Bool)) : Option Bool :=
 (disk_Disk_Down a2 a3 a4 a5 p6 p7 p8).bind fun d16 =>
 (disk_Disk_Down p9 p10 p11 p12 p13 p14 p15).bind fun d17 =>
 bif (!(d16 == d17)) then
  some false
 else
  (loopF (fun x => ladinglaw02_same.b1 p1 a2 a3 a4 a5 p6 p7 p8 p9 p10 p11 p12 p13 p14 p15 x) 0)
/-- lading/ladinglaw02.DiskArms -/
noncomputable def ladinglaw02_DiskArms.j1 [Fuel] (l1 : List GAct) (v11 : Int) (v16 : Int) (v17 : Bool) (v18 : Int) (v19 : List Int) (v23 : List (Int × GFile)) (v24 : List GSector) (v25 : List (GSector × Bool)) (v36 : Bool) : Option (Int × Bool × Int × (List Int) × (List (Int × GFile)) × (List GSector) × List (GSector × Bool)) :=
 bif v36 then
  ((idx l1 v11).bind fun v37 =>
  (ladinglaw02_do v37 v16 v17 v18 v19 v23 v24 v25).bind fun d38 =>
  some (d38.2.1, d38.2.2.1, d38.2.2.2.1, d38.2.2.2.2.1, d38.2.2.2.2.2.2.2, d38.2.2.2.2.2.1, d38.2.2.2.2.2.2.1))
 else
  some (v16, v17, v18, v19, v23, v24, v25)
noncomputable def ladinglaw02_DiskArms.j2 [Fuel] (p3 : List Int) (v39 : Int) (v40 : Bool) (v41 : Int) (v42 : List Int) (v43 : List (Int × GFile)) (v44 : List GSector) (v45 : List (GSector × Bool)) (v46 : Bool) : Option (Int × Bool × Int × (List Int) × (List (Int × GFile)) × (List GSector) × List (GSector × Bool)) :=
 bif v46 then
  ((disk_Disk_Crash p3 v39 v40 v41 v42 v43 v44 v45).bind fun c47 =>
  some (c47.1, c47.2.1, c47.2.2.1, c47.2.2.2.1, c47.2.2.2.2.2.2, c47.2.2.2.2.1, c47.2.2.2.2.2.1))
 else
  some (v39, v40, v41, v42, v43, v44, v45)
noncomputable def ladinglaw02_DiskArms.j3 [Fuel] (v11 : Int) (v28 : Int) (d30 : Int × Int × Bool × Int × (List Int) × (List GSector) × (List (GSector × Bool)) × List (Int × GFile)) (v48 : Int) (v49 : Bool) (v50 : Int) (v51 : List Int) (v52 : List (Int × GFile)) (v53 : List GSector) (v54 : List (GSector × Bool)) (v57 : Bool) : Option ((Int × Int × Int × Bool × Int × (List Int) × Int × Bool × Int × (List Int) × (List (Int × GFile)) × (List GSector) × (List (GSector × Bool)) × (List (Int × GFile)) × (List GSector) × List (GSector × Bool)) ⊕ ((Int × Bool × Int × (List Int) × Int × Bool × Int × (List Int) × (List (Int × GFile)) × (List GSector) × (List (GSector × Bool)) × (List (Int × GFile)) × (List GSector) × List (GSector × Bool)) ⊕ (Bool))) :=
 bif v57 then
  some (.inr (.inr false))
 else
  ((z64 (v11 + 1)).bind fun v58 =>
  some (.inl (v28, v58, d30.2.1, d30.2.2.1, d30.2.2.2.1, d30.2.2.2.2.1, v48, v49, v50, v51, d30.2.2.2.2.2.2.2, d30.2.2.2.2.2.1, d30.2.2.2.2.2.2.1, v52, v53, v54)))
noncomputable def ladinglaw02_DiskArms.j4 [Fuel] (v11 : Int) (v26 : GAct) (v28 : Int) (d30 : Int × Int × Bool × Int × (List Int) × (List GSector) × (List (GSector × Bool)) × List (Int × GFile)) (v48 : Int) (v49 : Bool) (v50 : Int) (v51 : List Int) (v52 : List (Int × GFile)) (v53 : List GSector) (v54 : List (GSector × Bool)) : Option ((Int × Int × Int × Bool × Int × (List Int) × Int × Bool × Int × (List Int) × (List (Int × GFile)) × (List GSector) × (List (GSector × Bool)) × (List (Int × GFile)) × (List GSector) × List (GSector × Bool)) ⊕ ((Int × Bool × Int × (List Int) × Int × Bool × Int × (List Int) × (List (Int × GFile)) × (List GSector) × (List (GSector × Bool)) × (List (Int × GFile)) × (List GSector) × List (GSector × Bool)) ⊕ (Bool))) :=
 (bif (ltZ (andI .i64 v26.1 7) 4) then
  (bif (!eqZ d30.1 8) then
   some true
  else
   ((disk_Disk_Down d30.2.1 d30.2.2.1 d30.2.2.2.1 d30.2.2.2.2.1 d30.2.2.2.2.2.2.2 d30.2.2.2.2.2.1 d30.2.2.2.2.2.2.1).bind fun d55 =>
   some (!d55)))
 else
  ((disk_Disk_Down d30.2.1 d30.2.2.1 d30.2.2.2.1 d30.2.2.2.2.1 d30.2.2.2.2.2.2.2 d30.2.2.2.2.2.1 d30.2.2.2.2.2.2.1).bind fun d56 =>
  some (!d56))).bind fun x =>
 ladinglaw02_DiskArms.j3 v11 v28 d30 v48 v49 v50 v51 v52 v53 v54 x
noncomputable def ladinglaw02_DiskArms.j5 [Fuel] (p2 : Int) (p3 : List Int) (v11 : Int) (v26 : GAct) (v28 : Int) (d30 : Int × Int × Bool × Int × (List Int) × (List GSector) × (List (GSector × Bool)) × List (Int × GFile)) (v39 : Int) (v40 : Bool) (v41 : Int) (v42 : List Int) (v43 : List (Int × GFile)) (v44 : List GSector) (v45 : List (GSector × Bool)) : Option ((Int × Int × Int × Bool × Int × (List Int) × Int × Bool × Int × (List Int) × (List (Int × GFile)) × (List GSector) × (List (GSector × Bool)) × (List (Int × GFile)) × (List GSector) × List (GSector × Bool)) ⊕ ((Int × Bool × Int × (List Int) × Int × Bool × Int × (List Int) × (List (Int × GFile)) × (List GSector) × (List (GSector × Bool)) × (List (Int × GFile)) × (List GSector) × List (GSector × Bool)) ⊕ (Bool))) :=
 ((bif (eqZ v28 p2) then
  some (ltZ (andI .i64 v26.1 7) 4)
 else
  some false).bind fun x =>
 ladinglaw02_DiskArms.j2 p3 v39 v40 v41 v42 v43 v44 v45 x).bind fun x =>
 ladinglaw02_DiskArms.j4 v11 v26 v28 d30 x.1 x.2.1 x.2.2.1 x.2.2.2.1 x.2.2.2.2.1 x.2.2.2.2.2.1 x.2.2.2.2.2.2
noncomputable def ladinglaw02_DiskArms.j6 [Fuel] (l1 : List GAct) (p2 : Int) (p3 : List Int) (v11 : Int) (v16 : Int) (v17 : Bool) (v18 : Int) (v19 : List Int) (v23 : List (Int × GFile)) (v24 : List GSector) (v25 : List (GSector × Bool)) (v26 : GAct) (v28 : Int) (d30 : Int × Int × Bool × Int × (List Int) × (List GSector) × (List (GSector × Bool)) × List (Int × GFile)) (v32 : Bool) : Option ((Int × Int × Int × Bool × Int × (List Int) × Int × Bool × Int × (List Int) × (List (Int × GFile)) × (List GSector) × (List (GSector × Bool)) × (List (Int × GFile)) × (List GSector) × List (GSector × Bool)) ⊕ ((Int × Bool × Int × (List Int) × Int × Bool × Int × (List Int) × (List (Int × GFile)) × (List GSector) × (List (GSector × Bool)) × (List (Int × GFile)) × (List GSector) × List (GSector × Bool)) ⊕ (Bool))) :=
 bif v32 then
  ((idx l1 v11).bind fun v33 =>
  (ladinglaw02_do v33 v16 v17 v18 v19 v23 v24 v25).bind fun d34 =>
  bif (!eqZ d30.1 d34.1) then
   some (.inr (.inr false))
  else
   ((z64 (v11 + 1)).bind fun v35 =>
   some (.inl (v28, v35, d30.2.1, d30.2.2.1, d30.2.2.2.1, d30.2.2.2.2.1, d34.2.1, d34.2.2.1, d34.2.2.2.1, d34.2.2.2.2.1, d30.2.2.2.2.2.2.2, d30.2.2.2.2.2.1, d30.2.2.2.2.2.2.1, d34.2.2.2.2.2.2.2, d34.2.2.2.2.2.1, d34.2.2.2.2.2.2.1))))
 else
  (((bif (eqZ v28 p2) then
   some (ltZ (andI .i64 v26.1 7) 2)
  else
   some false).bind fun x =>
  ladinglaw02_DiskArms.j1 l1 v11 v16 v17 v18 v19 v23 v24 v25 x).bind fun x =>
  ladinglaw02_DiskArms.j5 p2 p3 v11 v26 v28 d30 x.1 x.2.1 x.2.2.1 x.2.2.2.1 x.2.2.2.2.1 x.2.2.2.2.2.1 x.2.2.2.2.2.2)
noncomputable def ladinglaw02_DiskArms.j7 [Fuel] (l1 : List GAct) (p2 : Int) (p3 : List Int) (v11 : Int) (v12 : Int) (v13 : Bool) (v14 : Int) (v15 : List Int) (v16 : Int) (v17 : Bool) (v18 : Int) (v19 : List Int) (v20 : List (Int × GFile)) (v21 : List GSector) (v22 : List (GSector × Bool)) (v23 : List (Int × GFile)) (v24 : List GSector) (v25 : List (GSector × Bool)) (v26 : GAct) (v28 : Int) : Option ((Int × Int × Int × Bool × Int × (List Int) × Int × Bool × Int × (List Int) × (List (Int × GFile)) × (List GSector) × (List (GSector × Bool)) × (List (Int × GFile)) × (List GSector) × List (GSector × Bool)) ⊕ ((Int × Bool × Int × (List Int) × Int × Bool × Int × (List Int) × (List (Int × GFile)) × (List GSector) × (List (GSector × Bool)) × (List (Int × GFile)) × (List GSector) × List (GSector × Bool)) ⊕ (Bool))) :=
 (idx l1 v11).bind fun v29 =>
 (ladinglaw02_do v29 v12 v13 v14 v15 v20 v21 v22).bind fun d30 =>
 (bif (ltZ v28 p2) then
  some true
 else
  (bif (eqZ v28 p2) then
   (bif (eqZ (andI .i64 v26.1 7) 4) then
    ((disk_Disk_Down d30.2.1 d30.2.2.1 d30.2.2.2.1 d30.2.2.2.2.1 d30.2.2.2.2.2.2.2 d30.2.2.2.2.2.1 d30.2.2.2.2.2.2.1).bind fun d31 =>
    some (!d31))
   else
    some false)
  else
   some false)).bind fun x =>
 ladinglaw02_DiskArms.j6 l1 p2 p3 v11 v16 v17 v18 v19 v23 v24 v25 v26 v28 d30 x
noncomputable def ladinglaw02_DiskArms.b1 [Fuel] (l1 : List GAct) (p2 : Int) (p3 : List Int) (s4 : Bool) (v10 : Int) (v11 : Int) (v12 : Int) (v13 : Bool) (v14 : Int) (v15 : List Int) (v16 : Int) (v17 : Bool) (v18 : Int) (v19 : List Int) (v20 : List (Int × GFile)) (v21 : List GSector) (v22 : List (GSector × Bool)) (v23 : List (Int × GFile)) (v24 : List GSector) (v25 : List (GSector × Bool)) : Option ((Int × Int × Int × Bool × Int × (List Int) × Int × Bool × Int × (List Int) × (List (Int × GFile)) × (List GSector) × (List (GSector × Bool)) × (List (Int × GFile)) × (List GSector) × List (GSector × Bool)) ⊕ ((Int × Bool × Int × (List Int) × Int × Bool × Int × (List Int) × (List (Int × GFile)) × (List GSector) × (List (GSector × Bool)) × (List (Int × GFile)) × (List GSector) × List (GSector × Bool)) ⊕ (Bool))) :=
 bif (ltZ v11 (l1.length : Int)) then
  ((idx l1 v11).bind fun v26 =>
  bif (ltZ 4 (andI .i64 v26.1 7)) then
   some (.inr (.inr s4))
  else
   ((bif (ltZ (andI .i64 v26.1 7) 4) then
    ((z64 (v10 + 1)).bind fun v27 =>
    some v27)
   else
    some v10).bind fun x =>
   ladinglaw02_DiskArms.j7 l1 p2 p3 v11 v12 v13 v14 v15 v16 v17 v18 v19 v20 v21 v22 v23 v24 v25 v26 x))
 else
  some (.inr (.inl (v12, v13, v14, v15, v16, v17, v18, v19, v20, v21, v22, v23, v24, v25)))
noncomputable def ladinglaw02_DiskArms.j8 [Fuel] (l1 : List GAct) (s4 : Bool) (v59 : Int) (v60 : Bool) (v61 : Int) (v62 : List Int) (v63 : Int) (v64 : Bool) (v65 : Int) (v66 : List Int) (v67 : List (Int × GFile)) (v68 : List GSector) (v69 : List (GSector × Bool)) (v70 : List (Int × GFile)) (v71 : List GSector) (v72 : List (GSector × Bool)) : Option Bool :=
 (ladinglaw02_same l1 v59 v60 v61 v62 v67 v68 v69 v63 v64 v65 v66 v70 v71 v72).bind fun s73 =>
 (disk_Disk_Start v59 v60 v61 v62 v67 v68 v69).bind fun s74 =>
 (disk_Disk_Start v63 v64 v65 v66 v70 v71 v72).bind fun s75 =>
 bif s4 then
  (bif s73 then
   ((ladinglaw02_same l1 s74.1 s74.2.1 s74.2.2.1 s74.2.2.2.1 s74.2.2.2.2.1 s74.2.2.2.2.2.1 s74.2.2.2.2.2.2 s75.1 s75.2.1 s75.2.2.1 s75.2.2.2.1 s75.2.2.2.2.1 s75.2.2.2.2.2.1 s75.2.2.2.2.2.2).bind fun s76 =>
   some s76)
  else
   some false)
 else
  some false
noncomputable def ladinglaw02_DiskArms.j9 [Fuel] (l1 : List GAct) (p2 : Int) (p3 : List Int) (s4 : Bool) (v6 : Bool) : Option Bool :=
 bif v6 then
  some s4
 else
  ((disk_New).bind fun n7 =>
  (disk_New).bind fun n8 =>
  (disk_Disk_Arm p2 p3 n7.1 n7.2.1 n7.2.2.1 n7.2.2.2.1 n7.2.2.2.2.1 n7.2.2.2.2.2.1 n7.2.2.2.2.2.2).bind fun a9 =>
  (loopF (fun x => ladinglaw02_DiskArms.b1 l1 p2 p3 s4 x.1 x.2.1 x.2.2.1 x.2.2.2.1 x.2.2.2.2.1 x.2.2.2.2.2.1 x.2.2.2.2.2.2.1 x.2.2.2.2.2.2.2.1 x.2.2.2.2.2.2.2.2.1 x.2.2.2.2.2.2.2.2.2.1 x.2.2.2.2.2.2.2.2.2.2.1 x.2.2.2.2.2.2.2.2.2.2.2.1 x.2.2.2.2.2.2.2.2.2.2.2.2.1 x.2.2.2.2.2.2.2.2.2.2.2.2.2.1 x.2.2.2.2.2.2.2.2.2.2.2.2.2.2.1 x.2.2.2.2.2.2.2.2.2.2.2.2.2.2.2) (0, 0, a9.1, a9.2.1, a9.2.2.1, a9.2.2.2.1, n8.1, n8.2.1, n8.2.2.1, n8.2.2.2.1, a9.2.2.2.2.1, a9.2.2.2.2.2.1, a9.2.2.2.2.2.2, n8.2.2.2.2.1, n8.2.2.2.2.2.1, n8.2.2.2.2.2.2)).bind fun x => match x with
  | .inl x =>
   ladinglaw02_DiskArms.j8 l1 s4 x.1 x.2.1 x.2.2.1 x.2.2.2.1 x.2.2.2.2.1 x.2.2.2.2.2.1 x.2.2.2.2.2.2.1 x.2.2.2.2.2.2.2.1 x.2.2.2.2.2.2.2.2.1 x.2.2.2.2.2.2.2.2.2.1 x.2.2.2.2.2.2.2.2.2.2.1 x.2.2.2.2.2.2.2.2.2.2.2.1 x.2.2.2.2.2.2.2.2.2.2.2.2.1 x.2.2.2.2.2.2.2.2.2.2.2.2.2
  | .inr r => some r)
noncomputable def ladinglaw02_DiskArms [Fuel] (l1 : List GAct) (p2 : Int) (p3 : List Int) : Option Bool :=
 (ladinglaw02_small).bind fun s4 =>
 ((ladinglaw02_few l1).bind fun f5 =>
 bif (!f5) then
  some true
 else
  (bif (ltZ 60 (p3.length : Int)) then
   some true
  else
   (bif (ltZ p2 1) then
    some true
   else
    some (ltZ 60 p2)))).bind fun x =>
 ladinglaw02_DiskArms.j9 l1 p2 p3 s4 x
end Go.Proofs.Ytanpfcdbfdkclaa
