/-
  Layer 02 (disk): Crash's loop over the files, walked by hand (the files come in an order that is drawn).
-/
import Derived.Test.YtanpfcdbfdkclaaDel
import Derived.Test.YtanpfcdbfdkclaaDm
import Derived.StillTailTactics
import Derived.Deep.DeepCutAuto
namespace Go.Proofs.Ytanpfcdbfdkclaa
open Go.Lad Go.RowKit
set_option linter.unusedVariables false
set_option linter.unusedSimpArgs false
set_option maxRecDepth 100000
/-- the loop in the code of Crash -/
noncomputable def crashPick : Code → Code
  | .seq _ (.seq _ (.seq _ (.seq h _))) => h
  | _ => .skip
noncomputable def crashLoop : Code := match Try.f25.body with | some c => crashPick c | none => .skip
def crashTs : List Nat := [84, 85, 86, 87, 88, 89, 90, 91, 92, 93, 94, 95, 96, 97, 98, 99, 100, 101, 102, 103, 8, 9]
theorem mixedH : Try.prog.follows .mixedOrders = true := by kernel_rfl
theorem filKey : KeyLaw Try.prog 3 (keyI .i64) := KeyLaw.int Try.underlying3
def lastP (x : List PV) : List PV := [x.getD 1 (.int .i64 0), x.getD 1 (.int .i64 0)]
/-- what is left is as it was, the rest is settled -/
def mixP (left : Int → Bool) (m : List (Int × List PV)) : List (Int × List PV) := m.map fun x => cond (left x.1) x (x.1, lastP x.2)
theorem mixP_all (m : List (Int × List PV)) : mixP (fun _ => true) m = m := by
  unfold mixP
  rw [show (fun x : Int × List PV => cond true x (x.1, lastP x.2)) = id from rfl, List.map_id]
theorem mixP_row {left : Int → Bool} {m : List (Int × List PV)} (hrow : ∀ x ∈ m, ∃ p q : ByteArray, x.2 = [.str p, .str q]) {x : Int × List PV} (hx : x ∈ mixP left m) : ∃ p q : ByteArray, x.2 = [.str p, .str q] := by
  obtain ⟨y, hy, rfl⟩ := List.mem_map.1 hx
  obtain ⟨p, q, h⟩ := hrow y hy
  cases left y.1 with
  | true => exact ⟨p, q, h⟩
  | false => exact ⟨q, q, by show lastP y.2 = _; rw [h]; rfl⟩
theorem mix_set {left : Int → Bool} {m : List (Int × List PV)} (hn : (m.map (·.1)).Nodup) {i : Nat} {k : Int} {row : List PV} (hx : (mixP left m)[i]? = some (k, row)) (hl : left k = true) : (mixP left m).set i (k, lastP row) = mixP (fun y => left y && !decide (y = k)) m := by
  have hy : m[i]? = some (k, row) := by
    unfold mixP at hx
    rw [List.getElem?_map, Option.map_eq_some_iff] at hx
    obtain ⟨y, hy, hx⟩ := hx
    have h1 : y.1 = k := by
      cases h : left y.1 with
      | true => rw [h] at hx; exact congrArg Prod.fst hx
      | false => rw [h] at hx; exact congrArg Prod.fst hx
    rw [h1, hl] at hx
    rw [hy, ← hx]; rfl
  apply List.ext_getElem?
  intro j
  rw [List.getElem?_set]
  have hlen : (mixP left m).length = m.length := by unfold mixP; rw [List.length_map]
  split
  · rename_i hij
    subst hij
    rw [if_pos (by rw [hlen]; exact (List.getElem?_eq_some_iff.1 hy).1)]
    unfold mixP
    rw [List.getElem?_map, hy]
    simp
  · rename_i hij
    unfold mixP
    rw [List.getElem?_map, List.getElem?_map]
    cases hz : m[j]? with
    | none => rfl
    | some z =>
      have hne : z.1 ≠ k := fun e => hij (uniq_idx hn hy hz e.symm)
      simp [hne]
theorem mix_len (left : Int → Bool) (k : Int) (m : List (Int × List PV)) : ((mixP (fun y => left y && !decide (y = k)) m).filter fun y => left y.1 && !decide (y.1 = k)).length = ((mixP left m).filter fun y => left y.1 && !decide (y.1 = k)).length := by
  have e : ∀ l2 : Int → Bool, (mixP l2 m).map (·.1) = m.map (·.1) := fun l2 => by
    unfold mixP
    rw [List.map_map]
    refine List.map_congr_left fun x _ => ?_
    show (cond (l2 x.1) x (x.1, lastP x.2)).1 = x.1
    cases l2 x.1 <;> rfl
  rw [← List.countP_eq_length_filter, ← List.countP_eq_length_filter]
  have h1 := List.countP_map (p := fun y : Int => left y && !decide (y = k)) (f := fun x : Int × List PV => x.1) (l := mixP (fun y => left y && !decide (y = k)) m)
  have h2 := List.countP_map (p := fun y : Int => left y && !decide (y = k)) (f := fun x : Int × List PV => x.1) (l := mixP left m)
  rw [e] at h1 h2
  exact h1.symm.trans h2
theorem mixP_none {left : Int → Bool} {m : List (Int × List PV)} (h : ∀ x ∈ mixP left m, left x.1 = false) : mixP left m = m.map fun x => (x.1, lastP x.2) := by
  refine List.map_congr_left fun x hx => ?_
  have h1 : left x.1 = false := by
    have := h _ (List.mem_map_of_mem hx)
    cases hl : left x.1 with
    | false => rfl
    | true => rw [hl] at this; exact absurd (hl.symm.trans this) (by simp)
  rw [h1]; rfl
theorem crash_same (t : Nat) (ht : ¬ t ∈ crashTs) (p0 : Value) (u : Nat → Value) (v8 v9 v84 v85 v86 v87 v88 v89 v90 v91 v92 v93 v94 v95 v96 v97 v98 v99 v100 v101 v102 v103 : Value) : ([p0, u 1, u 2, u 3, u 4, u 5, u 6, u 7, v8, v9, u 10, u 11, u 12, u 13, u 14, u 15, u 16, u 17, u 18, u 19, u 20, u 21, u 22, u 23, u 24, u 25, u 26, u 27, u 28, u 29, u 30, u 31, u 32, u 33, u 34, u 35, u 36, u 37, u 38, u 39, u 40, u 41, u 42, u 43, u 44, u 45, u 46, u 47, u 48, u 49, u 50, u 51, u 52, u 53, u 54, u 55, u 56, u 57, u 58, u 59, u 60, u 61, u 62, u 63, u 64, u 65, u 66, u 67, u 68, u 69, u 70, u 71, u 72, u 73, u 74, u 75, u 76, u 77, u 78, u 79, u 80, u 81, u 82, u 83, v84, v85, v86, v87, v88, v89, v90, v91, v92, v93, v94, v95, v96, v97, v98, v99, v100, v101, v102, v103, u 104, u 105, u 106, u 107, u 108, u 109, u 110] : List Value)[t]?.getD undef = ([p0, u 1, u 2, u 3, u 4, u 5, u 6, u 7, u 8, u 9, u 10, u 11, u 12, u 13, u 14, u 15, u 16, u 17, u 18, u 19, u 20, u 21, u 22, u 23, u 24, u 25, u 26, u 27, u 28, u 29, u 30, u 31, u 32, u 33, u 34, u 35, u 36, u 37, u 38, u 39, u 40, u 41, u 42, u 43, u 44, u 45, u 46, u 47, u 48, u 49, u 50, u 51, u 52, u 53, u 54, u 55, u 56, u 57, u 58, u 59, u 60, u 61, u 62, u 63, u 64, u 65, u 66, u 67, u 68, u 69, u 70, u 71, u 72, u 73, u 74, u 75, u 76, u 77, u 78, u 79, u 80, u 81, u 82, u 83, u 84, u 85, u 86, u 87, u 88, u 89, u 90, u 91, u 92, u 93, u 94, u 95, u 96, u 97, u 98, u 99, u 100, u 101, u 102, u 103, u 104, u 105, u 106, u 107, u 108, u 109, u 110] : List Value)[t]?.getD undef :=
  match t, ht with
  | 0, h => rfl
  | 1, h => rfl
  | 2, h => rfl
  | 3, h => rfl
  | 4, h => rfl
  | 5, h => rfl
  | 6, h => rfl
  | 7, h => rfl
  | 8, h => absurd (by decide) h
  | 9, h => absurd (by decide) h
  | 10, h => rfl
  | 11, h => rfl
  | 12, h => rfl
  | 13, h => rfl
  | 14, h => rfl
  | 15, h => rfl
  | 16, h => rfl
  | 17, h => rfl
  | 18, h => rfl
  | 19, h => rfl
  | 20, h => rfl
  | 21, h => rfl
  | 22, h => rfl
  | 23, h => rfl
  | 24, h => rfl
  | 25, h => rfl
  | 26, h => rfl
  | 27, h => rfl
  | 28, h => rfl
  | 29, h => rfl
  | 30, h => rfl
  | 31, h => rfl
  | 32, h => rfl
  | 33, h => rfl
  | 34, h => rfl
  | 35, h => rfl
  | 36, h => rfl
  | 37, h => rfl
  | 38, h => rfl
  | 39, h => rfl
  | 40, h => rfl
  | 41, h => rfl
  | 42, h => rfl
  | 43, h => rfl
  | 44, h => rfl
  | 45, h => rfl
  | 46, h => rfl
  | 47, h => rfl
  | 48, h => rfl
  | 49, h => rfl
  | 50, h => rfl
  | 51, h => rfl
  | 52, h => rfl
  | 53, h => rfl
  | 54, h => rfl
  | 55, h => rfl
  | 56, h => rfl
  | 57, h => rfl
  | 58, h => rfl
  | 59, h => rfl
  | 60, h => rfl
  | 61, h => rfl
  | 62, h => rfl
  | 63, h => rfl
  | 64, h => rfl
  | 65, h => rfl
  | 66, h => rfl
  | 67, h => rfl
  | 68, h => rfl
  | 69, h => rfl
  | 70, h => rfl
  | 71, h => rfl
  | 72, h => rfl
  | 73, h => rfl
  | 74, h => rfl
  | 75, h => rfl
  | 76, h => rfl
  | 77, h => rfl
  | 78, h => rfl
  | 79, h => rfl
  | 80, h => rfl
  | 81, h => rfl
  | 82, h => rfl
  | 83, h => rfl
  | 84, h => absurd (by decide) h
  | 85, h => absurd (by decide) h
  | 86, h => absurd (by decide) h
  | 87, h => absurd (by decide) h
  | 88, h => absurd (by decide) h
  | 89, h => absurd (by decide) h
  | 90, h => absurd (by decide) h
  | 91, h => absurd (by decide) h
  | 92, h => absurd (by decide) h
  | 93, h => absurd (by decide) h
  | 94, h => absurd (by decide) h
  | 95, h => absurd (by decide) h
  | 96, h => absurd (by decide) h
  | 97, h => absurd (by decide) h
  | 98, h => absurd (by decide) h
  | 99, h => absurd (by decide) h
  | 100, h => absurd (by decide) h
  | 101, h => absurd (by decide) h
  | 102, h => absurd (by decide) h
  | 103, h => absurd (by decide) h
  | 104, h => rfl
  | 105, h => rfl
  | 106, h => rfl
  | 107, h => rfl
  | 108, h => rfl
  | 109, h => rfl
  | 110, h => rfl
  | n + 111, _ => rfl
theorem next_grown {wr w1 w2 : World} {r : Nat} {o : Obj} (hw1 : w1 = wr ∨ w1 = wr.drew) (hw2 : w2 = ChangeMaps.setBlock w1 r o) : wr.grownBy w2 (some r) := by
  subst hw2
  have hh : ∀ j : Nat, w1.heap[j]? = wr.heap[j]? := fun j => by rcases hw1 with rfl | rfl <;> rfl
  have hsz : w1.heap.size = wr.heap.size := by rcases hw1 with rfl | rfl <;> rfl
  refine ⟨by rcases hw1 with rfl | rfl <;> rfl, by rcases hw1 with rfl | rfl <;> rfl, by rcases hw1 with rfl | rfl <;> rfl, ?_, fun k hk hne => ?_⟩
  · show wr.heap.size ≤ (w1.heap.setIfInBounds _ _).size
    rw [Array.size_setIfInBounds, hsz]; exact Nat.le_refl _
  · show (w1.heap.setIfInBounds _ _)[k]? = _
    rw [Array.getElem?_setIfInBounds_ne (fun e => hne (by rw [e])), hh]
theorem arr_lit (A : Array Value) (h : A.size = 111) : A = #[A.getD 0 undef, A.getD 1 undef, A.getD 2 undef, A.getD 3 undef, A.getD 4 undef, A.getD 5 undef, A.getD 6 undef, A.getD 7 undef, A.getD 8 undef, A.getD 9 undef, A.getD 10 undef, A.getD 11 undef, A.getD 12 undef, A.getD 13 undef, A.getD 14 undef, A.getD 15 undef, A.getD 16 undef, A.getD 17 undef, A.getD 18 undef, A.getD 19 undef, A.getD 20 undef, A.getD 21 undef, A.getD 22 undef, A.getD 23 undef, A.getD 24 undef, A.getD 25 undef, A.getD 26 undef, A.getD 27 undef, A.getD 28 undef, A.getD 29 undef, A.getD 30 undef, A.getD 31 undef, A.getD 32 undef, A.getD 33 undef, A.getD 34 undef, A.getD 35 undef, A.getD 36 undef, A.getD 37 undef, A.getD 38 undef, A.getD 39 undef, A.getD 40 undef, A.getD 41 undef, A.getD 42 undef, A.getD 43 undef, A.getD 44 undef, A.getD 45 undef, A.getD 46 undef, A.getD 47 undef, A.getD 48 undef, A.getD 49 undef, A.getD 50 undef, A.getD 51 undef, A.getD 52 undef, A.getD 53 undef, A.getD 54 undef, A.getD 55 undef, A.getD 56 undef, A.getD 57 undef, A.getD 58 undef, A.getD 59 undef, A.getD 60 undef, A.getD 61 undef, A.getD 62 undef, A.getD 63 undef, A.getD 64 undef, A.getD 65 undef, A.getD 66 undef, A.getD 67 undef, A.getD 68 undef, A.getD 69 undef, A.getD 70 undef, A.getD 71 undef, A.getD 72 undef, A.getD 73 undef, A.getD 74 undef, A.getD 75 undef, A.getD 76 undef, A.getD 77 undef, A.getD 78 undef, A.getD 79 undef, A.getD 80 undef, A.getD 81 undef, A.getD 82 undef, A.getD 83 undef, A.getD 84 undef, A.getD 85 undef, A.getD 86 undef, A.getD 87 undef, A.getD 88 undef, A.getD 89 undef, A.getD 90 undef, A.getD 91 undef, A.getD 92 undef, A.getD 93 undef, A.getD 94 undef, A.getD 95 undef, A.getD 96 undef, A.getD 97 undef, A.getD 98 undef, A.getD 99 undef, A.getD 100 undef, A.getD 101 undef, A.getD 102 undef, A.getD 103 undef, A.getD 104 undef, A.getD 105 undef, A.getD 106 undef, A.getD 107 undef, A.getD 108 undef, A.getD 109 undef, A.getD 110 undef] := by
  have e : A = ((List.range 111).map fun i => A.getD i undef).toArray := by
    apply Array.ext
    · simp [h]
    · intro i h1 h2
      simp [Array.getD, h1]
  exact e.trans (by kernel_rfl)
theorem crash_walk (u : Nat → Value) (ds : List Deferred) (B b : Nat) (w : World) {es0 : Array MapEntry} {clock0 : Nat} (m : List (Int × List PV)) (hm : MapAt (keyI .i64) (vfOf true) w b es0 clock0 m)
    (hrow : ∀ x ∈ m, ∃ p q : ByteArray, x.2 = [.str p, .str q]) (hc : w.cell? ⟨B, 0, none⟩ = some (.map (some b))) (hB : B ≠ b) :
    crashLoop.wp Try.prog (fun e a' w' => e = .normal ∧ a'.defers = ds ∧ a'.tmps.size = 111 ∧ (∀ t, t ∉ crashTs → a'.tmps.getD t undef = (#[.pointer (some ⟨B, 0, none⟩), u 1, u 2, u 3, u 4, u 5, u 6, u 7, u 8, u 9, u 10, u 11, u 12, u 13, u 14, u 15, u 16, u 17, u 18, u 19, u 20, u 21, u 22, u 23, u 24, u 25, u 26, u 27, u 28, u 29, u 30, u 31, u 32, u 33, u 34, u 35, u 36, u 37, u 38, u 39, u 40, u 41, u 42, u 43, u 44, u 45, u 46, u 47, u 48, u 49, u 50, u 51, u 52, u 53, u 54, u 55, u 56, u 57, u 58, u 59, u 60, u 61, u 62, u 63, u 64, u 65, u 66, u 67, u 68, u 69, u 70, u 71, u 72, u 73, u 74, u 75, u 76, u 77, u 78, u 79, u 80, u 81, u 82, u 83, u 84, u 85, u 86, u 87, u 88, u 89, u 90, u 91, u 92, u 93, u 94, u 95, u 96, u 97, u 98, u 99, u 100, u 101, u 102, u 103, u 104, u 105, u 106, u 107, u 108, u 109, u 110] : Array Value).getD t undef) ∧ w.grownBy w' (some b) ∧ ∃ es clock, MapAt (keyI .i64) (vfOf true) w' b es clock (m.map fun x => (x.1, lastP x.2)))
      { tmps := #[.pointer (some ⟨B, 0, none⟩), u 1, u 2, u 3, u 4, u 5, u 6, u 7, u 8, u 9, u 10, u 11, u 12, u 13, u 14, u 15, u 16, u 17, u 18, u 19, u 20, u 21, u 22, u 23, u 24, u 25, u 26, u 27, u 28, u 29, u 30, u 31, u 32, u 33, u 34, u 35, u 36, u 37, u 38, u 39, u 40, u 41, u 42, u 43, u 44, u 45, u 46, u 47, u 48, u 49, u 50, u 51, u 52, u 53, u 54, u 55, u 56, u 57, u 58, u 59, u 60, u 61, u 62, u 63, u 64, u 65, u 66, u 67, u 68, u 69, u 70, u 71, u 72, u 73, u 74, u 75, u 76, u 77, u 78, u 79, u 80, u 81, u 82, u 83, u 84, u 85, u 86, u 87, u 88, u 89, u 90, u 91, u 92, u 93, u 94, u 95, u 96, u 97, u 98, u 99, u 100, u 101, u 102, u 103, u 104, u 105, u 106, u 107, u 108, u 109, u 110], defers := ds } w := by
  obtain ⟨hrg0, hr0⟩ := hm.range (P := Try.prog) Try.underlying52
  have hBlt : B < w.heap.size := by
    refine Classical.byContradiction fun h => ?_
    rw [World.cell?, Array.getElem?_eq_none (by simpa using h)] at hc
    cases hc
  unfold crashLoop
  simp only [Try.f25, crashPick]
  go_wp2
  go_loopw [89] (fun _ wr => ∃ left : Int → Bool, RngAt (keyI .i64) (vfOf true) wr b w.heap.size (mixP left m) left ∧ w.grownBy wr (some b)) (fun _ wr => cntAt wr b w.heap.size)
  case atStart => exact ⟨fun _ => true, by rw [mixP_all m]; exact hr0, (grown_alloc _ _).but _⟩
  case round =>
    obtain ⟨left, hr, hg⟩ := hrel
    rcases hr.next (P := Try.prog) 0 with ⟨h0, hnx⟩ | ⟨i, x, w1, w2, o, hx, hlx, hw1, hw2, hnx, hr2, hen⟩
    · go_wp2
      refine ⟨fun t ht => crash_same t ht .., ?_⟩
      obtain ⟨es, clock, h1⟩ := hr.map
      rw [mixP_none h0] at h1
      exact ⟨es, clock, h1⟩
    · have hg2 := next_grown hw1 hw2
      have hgw : w.grownBy w2 (some b) := hg.andThen hg2 fun j hj => by cases hj; exact .inl (Nat.le_refl _)
      have hlt := hr.lt
      have hBlt2 : B < w2.heap.size := Nat.lt_of_lt_of_le hBlt hgw.size
      have hc2 : w2.cell? ⟨B, 0, none⟩ = some (.map (some b)) := (World.cell?_of_block (hgw.block B hBlt (by simpa using hB))).trans hc
      have hmem := List.mem_of_getElem? hx
      obtain ⟨p, q, hpq⟩ := mixP_row hrow hmem
      obtain ⟨k, row⟩ := x
      dsimp only at hpq
      subst hpq
      have e1 : keyI .i64 k = .int .i64 k := rfl
      have e2 : vfOf true [.str p, .str q] = .agg #[.string p, .string q] := rfl
      dsimp only at hnx hen
      rw [e1, e2] at hnx hen
      clear hw2
      have hg4 : w2.grownBy (w2.alloc (.cells #[.string p, .string q] 63)).drew none := by
        refine ⟨rfl, rfl, rfl, ?_, fun k hk _ => ?_⟩
        · show w2.heap.size ≤ (w2.alloc (.cells #[.string p, .string q] 63)).heap.size
          simp
        · exact Below.heap_alloc _ _ _ hk
      have hr4 := hr2.frame (hg4.block b hr2.lt.1 (by simp)) (hg4.block _ hr2.lt.2.1 (by simp))
      have hgw4 := hgw.andThen hg4 fun j hj => by cases hj
      obtain ⟨es5, c5, hupd, hr5⟩ := hr4.update filKey Try.underlying52 hx (lastP [.str p, .str q])
      dsimp only at hupd
      rw [e1, show vfOf true (lastP [.str p, .str q]) = .agg #[.string q, .string q] from rfl] at hupd
      have hg5 := setMap_grown (w2.alloc (.cells #[.string p, .string q] 63)).drew b es5 c5
      have hgw5 := hgw4.andThen hg5 fun j hj => by cases hj; exact .inr rfl
      have hlt1 : ((mixP left m).filter fun y => left y.1 && !decide (y.1 = k)).length < ((mixP left m).filter fun y => left y.1).length :=
        filter_lt (fun y : Int × List PV => left y.1) (fun y => left y.1 && !decide (y.1 = k)) (fun y hy => by rw [Bool.and_eq_true] at hy; exact hy.1) (k, [.str p, .str q]) hlx (by simp) _ hmem
      rw [mix_set hm.uniq hx hlx] at hr5
      have hcB : (w2.alloc (.cells #[.string p, .string q] 63)).drew.cell? ⟨B, 0, none⟩ = some (.map (some b)) := (World.cell?_of_block (hg4.block B hBlt2 (by simp))).trans hc2
      have hcq : (w2.alloc (.cells #[.string p, .string q] 63)).drew.cell? ⟨w2.heap.size, 1, none⟩ = some (.string q) := by
        show (w2.alloc (.cells #[.string p, .string q] 63)).cell? ⟨w2.heap.size, 1, none⟩ = _
        simp [World.cell?, World.alloc, -World.alloc_eq]
      go_wp2
      refine wp_region_still_tail 10 mixedH (by kernel_rfl) ?_
      simp only [List.take_succ_cons, List.take_zero, List.drop_succ_cons, List.drop_zero]
      change wpStill _ _ (w2.alloc (.cells #[.string p, .string q] 63)).drew (fun a' => wpList _ _ _ _ a' (w2.alloc (.cells #[.string p, .string q] 63)).drew) _ _
      generalize (w2.alloc (.cells #[.string p, .string q] 63)).drew = W4 at hg4 hr4 hgw4 hupd hr5 hg5 hgw5 hcB hcq
      repeat still_step
      refine wpStill_nil ?_
      go_wp2
      refine ⟨⟨_, hr5, hgw5⟩, ?_⟩
      rw [cnt_eq hr5, cnt_eq hr]
      refine Nat.lt_of_le_of_lt (Nat.le_of_eq ?_) hlt1
      exact mix_len left k m
end Go.Proofs.Ytanpfcdbfdkclaa

