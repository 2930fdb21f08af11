/-
  Layer 02 (disk): maps.DeleteFunc of the map of pending sectors, walked by hand (the entries come in an order that is drawn).
-/
import Derived.Test.YtanpfcdbfdkclaaKModel
import Derived.Test.YtanpfcdbfdkclaaD12
import Derived.Test.YtanpfcdbfdkclaaRg
import Derived.WalkKit
import Derived.Maps.RangeWalk
import Derived.Deep.LoopGhost
namespace Go.Proofs.Ytanpfcdbfdkclaa
open Go.Lad Go.RowKit
set_option linter.unusedVariables false
set_option linter.unusedSimpArgs false
set_option maxRecDepth 100000

theorem grown_alloc (W : World) (o : Obj) : W.grownBy (W.alloc o) none := ⟨rfl, rfl, rfl, by simp, fun k hk _ => Below.heap_alloc _ _ k hk⟩
theorem secKey : KeyLaw Try.prog 70 (keyQ .i64) := qKey_law (by kernel_rfl)
/-- how many entries the iterator has not handed out -/
def cntAt (w : World) (b r : Nat) : Nat := match w.heap[b]?, w.heap[r]? with
  | some (.map es _), some (.mapIter _ _ seen _) => (es.toList.filter fun e => !seen.contains e.born).length
  | _, _ => 0
theorem cnt_eq {α β : Type} {kv : α → Value} {vf : β → Value} {w : World} {b r : Nat} {m : List (α × β)} {left : α → Bool} (h : RngAt kv vf w b r m left) : cntAt w b r = (m.filter fun x => left x.1).length := by
  obtain ⟨es, clock, since, c0, seen, h1, h2, h3, h4, h4', h5⟩ := h
  unfold cntAt
  rw [h1.at_, h2]
  dsimp only
  have e : (es.toList.map fun e => !seen.contains e.born) = m.map fun x => left x.1 := by
    apply List.ext_getElem?
    intro i
    rw [List.getElem?_map, List.getElem?_map]
    cases hx : m[i]? with
    | none =>
      have hl := List.getElem?_eq_none_iff.1 hx
      rw [List.getElem?_eq_none (by rw [Array.length_toList, h1.len]; exact hl)]; rfl
    | some x =>
      obtain ⟨e, he, _, _⟩ := h1.at2 hx
      rw [he, Option.map_some, Option.map_some, h5 i e x he hx]
  rw [← List.countP_eq_length_filter, ← List.countP_eq_length_filter]
  have h6 := congrArg (List.countP id) e
  rw [List.countP_map, List.countP_map] at h6
  exact h6
theorem filter_erase {γ : Type} {p : γ → Bool} : ∀ (l : List γ) (i : Nat) (x : γ), l[i]? = some x → p x = false → (l.eraseIdx i).filter p = l.filter p
  | [], _, _, h, _ => by simp at h
  | y :: l, 0, x, h, hp => by
    simp at h
    subst h
    simp [hp]
  | y :: l, i + 1, x, h, hp => by
    have ih := filter_erase l i x (by simpa using h) hp
    rw [List.eraseIdx_cons_succ, List.filter_cons, List.filter_cons, ih]
theorem del_calls {es0 : Array MapEntry} {clock0 : Nat} (b B : Nat) (f : Int) (m : List ((Int × Int) × List PV)) (w : World) (hm : MapAt (keyQ .i64) (vfOf false) w b es0 clock0 m) (hc : w.cell? ⟨B, 0, none⟩ = some (.int .i64 f)) (hB : B ≠ b) :
    Calls Try.prog 58 #[.map (some b), .func (.func 59) #[] #[.pointer (some ⟨B, 0, none⟩)]] w fun e w' => e = .returned (.tuple #[]) ∧ w.grownBy w' (some b) ∧ ∃ es clock, MapAt (keyQ .i64) (vfOf false) w' b es clock (m.filter fun x => !decide (x.1.1 = f)) := by
  obtain ⟨hrg0, hr0⟩ := hm.range (P := Try.prog) Try.underlying53
  have hBlt : B < w.heap.size := by
    refine Classical.byContradiction fun h => ?_
    rw [World.cell?, Array.getElem?_eq_none (by simpa using h)] at hc
    cases hc
  go_enter Try.func58, Try.ntmps58
  go_wp2
  go_loopw [8] (fun _ wr => ∃ (m' : List ((Int × Int) × List PV)) (left : Int × Int → Bool), RngAt (keyQ .i64) (vfOf false) wr b w.heap.size m' left ∧ w.grownBy wr (some b) ∧ (m'.filter fun x => !decide (x.1.1 = f)) = (m.filter fun x => !decide (x.1.1 = f)) ∧ ∀ x ∈ m', left x.1 = false → ¬ x.1.1 = f)
    (fun _ wr => cntAt wr b w.heap.size)
  case atStart => exact ⟨m, _, hr0, (grown_alloc _ _).but _, rfl, fun x hx h => by cases h⟩
  case round =>
    obtain ⟨m', left, hr, hg, hf, hl⟩ := hrel
    rcases hr.next (P := Try.prog) 0 with ⟨h0, hnx⟩ | ⟨i, x, w1, w2, o, hx, hlx, hw1, hw2, hnx, hr2, hen⟩
    · go_wp2
      go_end0
      obtain ⟨es, clock, h1⟩ := hr.map
      refine ⟨rfl, hg, es, clock, ?_⟩
      have e : (m'.filter fun x => !decide (x.1.1 = f)) = m' := List.filter_eq_self.2 fun x hx => by have := hl x hx (h0 x hx); simp [this]
      rw [← hf, e]; exact h1
    · have hlt := hr.lt
      have hg2 : wr.grownBy w2 (some w.heap.size) := by
        subst hw2
        have hh : ∀ j : Nat, w1.heap[j]? = wr.heap[j]? := fun j => by rcases hw1 with rfl | rfl <;> rfl
        have hsz : w1.heap.size = wr.heap.size := by rcases hw1 with rfl | rfl <;> rfl
        refine ⟨by rcases hw1 with rfl | rfl <;> rfl, by rcases hw1 with rfl | rfl <;> rfl, by rcases hw1 with rfl | rfl <;> rfl, ?_, fun k hk hne => ?_⟩
        · show wr.heap.size ≤ (w1.heap.setIfInBounds _ _).size
          rw [Array.size_setIfInBounds, hsz]; exact Nat.le_refl _
        · show (w1.heap.setIfInBounds _ _)[k]? = _
          rw [Array.getElem?_setIfInBounds_ne (fun e => hne (by rw [e])), hh]
      have hgw : w.grownBy w2 (some b) := hg.andThen hg2 fun j hj => by cases hj; exact .inl (Nat.le_refl _)
      obtain ⟨⟨k1, k2⟩, v⟩ := x
      have hc2 : w2.cell? ⟨B, 0, none⟩ = some (.int .i64 f) := (World.cell?_of_block (hgw.block B hBlt (by simpa using hB))).trans hc
      have e1 : keyQ .i64 (k1, k2) = .agg #[.int .i64 k1, .int .i64 k2] := rfl
      dsimp only at hnx hen
      rw [e1] at hnx hen
      generalize hv : vfOf false v = v0 at hnx hen
      clear hw2
      have hsz2 : wr.heap.size ≤ w2.heap.size := hg2.size
      have hBlt2 : B < w2.heap.size := Nat.lt_of_lt_of_le hBlt hgw.size
      have hmem : ((k1, k2), v) ∈ m' := List.mem_of_getElem? hx
      have hg4 : w2.grownBy ((w2.alloc (.cells #[.int .i64 k1, .int .i64 k2] 70)).alloc (.cells #[.int .i64 k1, .int .i64 k2] 70)) none := by
        refine ⟨rfl, rfl, rfl, by simp; omega, fun k hk _ => ?_⟩
        rw [Below.heap_alloc _ _ _ (by simp; omega), Below.heap_alloc _ _ _ hk]
      have hr4 := hr2.frame (hg4.block b hr2.lt.1 (by simp)) (hg4.block _ hr2.lt.2.1 (by simp))
      have hgw4 := hgw.andThen hg4 fun j hj => by cases hj
      have hlt1 : (m'.filter fun y => left y.1 && !decide (y.1 = (k1, k2))).length < (m'.filter fun y => left y.1).length :=
        filter_lt (fun y : (Int × Int) × List PV => left y.1) (fun y => left y.1 && !decide (y.1 = (k1, k2))) (fun y hy => by rw [Bool.and_eq_true] at hy; exact hy.1) ((k1, k2), v) hlx (by simp) m' hmem
      obtain ⟨es5, c5, hdel, hr5⟩ := hr4.delete secKey Try.underlying53 hx 0
      dsimp only at hdel
      rw [e1] at hdel
      have hg5 := setMap_grown ((w2.alloc (.cells #[.int .i64 k1, .int .i64 k2] 70)).alloc (.cells #[.int .i64 k1, .int .i64 k2] 70)) b es5 c5
      have hgw5 := hgw4.andThen hg5 fun j hj => by cases hj; exact .inr rfl
      go_wp2
      · rename_i hk
        refine ⟨⟨_, _, hr5, hgw5, ?_, fun y hy hly => ?_⟩, ?_⟩
        · have hk : k1 = f := by first | exact hk | simpa using hk
          rw [← hf]
          exact filter_erase (p := fun x : (Int × Int) × List PV => !decide (x.1.1 = f)) m' i _ hx (by simp [hk])
        · have hy' := List.mem_of_mem_eraseIdx hy
          by_cases hyk : y.1 = (k1, k2)
          · exfalso
            obtain ⟨es, clock, hma⟩ := hr.map
            obtain ⟨j, hj⟩ := List.getElem?_of_mem hy
            rw [List.getElem?_eraseIdx] at hj
            split at hj
            · have := uniq_idx hma.uniq hj hx hyk; omega
            · have := uniq_idx hma.uniq hj hx hyk; omega
          · refine hl y hy' ?_
            simpa [hyk] using hly
        · rw [cnt_eq hr5, cnt_eq hr]
          refine Nat.lt_of_le_of_lt ?_ hlt1
          exact ((List.eraseIdx_sublist m' i).filter _).length_le
      · rename_i hk
        refine ⟨⟨_, _, hr4, hgw4, hf, fun y hy hly => ?_⟩, ?_⟩
        · by_cases hyk : y.1 = (k1, k2)
          · rw [hyk]
            first | exact hk | simpa using hk
          · refine hl y hy ?_
            simpa [hyk] using hly
        · rw [cnt_eq hr4, cnt_eq hr]
          exact hlt1
noncomputable def delCon [Fuel] : Con := ⟨58, [.c (.v (.mp 1000000)), .c (.v (.fn 118 [1000001]))], [(1000001, .box 3 [.d (.int .i64)])], [(1000000, .mapQ .i64 false .bool)], [.int .i64, .sl (.pair (.pair (.int .i64) (.int .i64)) .bool)], .tup [], [(1000000, .mapQ .i64 false .bool)], [.sl (.pair (.pair (.int .i64) (.int .i64)) .bool)], fun x => maps_DeleteFunc x.1 x.2⟩
theorem delM_filter {α β : Type} (p : α → β → Option Bool) (q : α → Bool) (h : ∀ x y, p x y = some (q x)) : ∀ m : List (α × β), delM p m = some (m.filter fun x => !q x.1)
  | [] => rfl
  | x :: r => by
    unfold delM
    rw [h, delM_filter p q h r]
    simp only [Option.bind_some, List.filter_cons]
    cases q x.1 <;> rfl
theorem maps_DeleteFunc_eq [Fuel] (f : Int) (m : List ((Int × Int) × Bool)) : maps_DeleteFunc f m = some (m.filter fun x => !decide (x.1.1 = f)) :=
  delM_filter (α := Int × Int) (β := Bool) (fun x y => disk_Disk_settle_2 x.1 x.2 y f) (fun x => decide (x.1 = f)) (fun x y => by show some (eqZ x.1 f) = _; rw [eqZ_eq]) m
theorem enc_filter {V : Type} (e : V → List PV) (f : Int) : ∀ m : List ((Int × Int) × V), (encM mkQ e m).filter (fun x => !decide (x.1.1 = f)) = encM mkQ e (m.filter fun x => !decide (x.1.1 = f))
  | [] => rfl
  | x :: r => by
    have ih := enc_filter e f r
    show ((mkQ x.1, e x.2) :: encM mkQ e r).filter _ = _
    rw [List.filter_cons, List.filter_cons, ih]
    show (if (!decide (x.1.1 = f)) = true then _ else _) = _
    by_cases h : x.1.1 = f <;> simp [h, encM]
theorem del_meets (f : Int) (m : List ((Int × Int) × List PV)) : MeetsH Try.prog 58 ⟨[.c (.v (.mp 1000000)), .c (.v (.fn 118 [1000001]))], [(1000000, .mapQ .i64 false m), (1000001, .box 3 [.p (.int .i64 f)])], .tup [], [(1000000, .mapQ .i64 false (m.filter fun x => !decide (x.1.1 = f))), (1000001, .box 3 [.p (.int .i64 f)])]⟩ := by
  intro w G vs hnorm hglob hargs hobjs
  obtain ⟨v0, v1, rfl⟩ : ∃ v0 v1, vs = [v0, v1] := by
    have := hargs.1
    match vs, this with
    | [a, b], _ => exact ⟨a, b, rfl⟩
  have hv0 : v0 = .map (some (G.bl 1000000)) := (hargs.2 0 _ _ rfl rfl : SRd G _ w _ v0).val
  have hv1 : v1 = .func (.func 59) #[] #[.pointer (some ⟨G.bl 1000001, 0, none⟩)] := by
    have h : v1 = fnV (2 * 59) ([1000001].map fun o => ptr (G.bl o) 0) := (hargs.2 1 _ _ rfl rfl : SRd G _ w _ v1).val
    rw [h, fnV_even]; rfl
  subst hv0 hv1
  obtain ⟨es, clock, hm, hcol, hrow⟩ := hobjs 1000000 _ rfl
  obtain ⟨us, hb, hcol2, hall⟩ := hobjs 1000001 _ rfl
  have hc : w.cell? ⟨G.bl 1000001, 0, none⟩ = some (.int .i64 f) := by
    rw [hb.cell]
    match us, hall.1 with
    | [v], _ =>
      have h2 := (hall.2 0 _ v rfl rfl).val
      cases h2
      rfl
  have hne : G.bl 1000001 ≠ G.bl 1000000 := fun e => by rw [e, hcol] at hcol2; omega
  refine (del_calls (G.bl 1000000) (G.bl 1000001) f m w hm hc hne).mono ?_
  rintro e w' ⟨rfl, hg, es', clock', hm'⟩
  have hb' : w'.heap[G.bl 1000001]? = w.heap[G.bl 1000001]? := hg.block _ (Array.getElem?_eq_some_iff.1 hb).1 (by simpa using hne)
  refine ⟨G, _, [], rfl, rfl, hg.os, hg.tape, hg.output, hg.size, fun b hb h1 => ⟨hg.block b hb ?_, rfl⟩, fun b hb => .inl hb, fun o _ => ⟨rfl, rfl⟩, fun b hb => hnorm b (Nat.le_trans hg.size hb), ⟨rfl, fun i x v hx => by simp [Rz.comps] at hx⟩, fun o h ho => ?_⟩
  · intro e
    injection e with e
    rw [e, hcol] at h1; omega
  · simp only [hpL, lookL] at ho
    split at ho
    · rename_i he
      have he : o = 1000000 := by simpa using he
      subst he
      injection ho with ho
      subst ho
      exact ⟨es', clock', hm', hcol, fun x hx => hrow x (List.mem_filter.1 hx).1⟩
    · split at ho
      · rename_i he
        have he : o = 1000001 := by simpa using he
        subst he
        injection ho with ho
        subst ho
        refine ⟨us, hb'.trans hb, hcol2, ⟨hall.1, fun i x v hx hv => ?_⟩⟩
        have h3 := hall.2 i x v hx hv
        match i, hx with
        | 0, hx =>
          simp at hx
          subst hx
          have h4 := h3.val
          cases h4
          exact ⟨rfl, by simp [Leaf.ids], .int (by assumption)⟩
      · cases ho
theorem del_ok [Fuel] : ConOK Try.prog delCon := by
  refine ⟨by kernel_rfl, fun x r hr => ?_⟩
  obtain ⟨f, m⟩ := x
  obtain ⟨f, rfl⟩ : ∃ g : Int, g = f := ⟨f, rfl⟩
  obtain ⟨m, rfl⟩ : ∃ l : List ((Int × Int) × Bool), l = m := ⟨m, rfl⟩
  have hr : maps_DeleteFunc f m = some r := hr
  rw [maps_DeleteFunc_eq] at hr
  injection hr with hr
  subst hr
  have key := del_meets f (encM mkQ (enc .bool) m)
  have e2 := enc_filter (enc .bool) f m
  rw [e2] at key
  have e1 : delCon.spec (f, m) (m.filter fun x : (Int × Int) × Bool => !decide (x.1.1 = f)) = ⟨[.c (.v (.mp 1000000)), .c (.v (.fn 118 [1000001]))], [(1000000, .mapQ .i64 false (encM mkQ (enc .bool) m)), (1000001, .box 3 [.p (.int .i64 f)])], .tup [], [(1000000, .mapQ .i64 false (encM mkQ (enc .bool) (m.filter fun x : (Int × Int) × Bool => !decide (x.1.1 = f)))), (1000001, .box 3 [.p (.int .i64 f)])]⟩ := by
    have hl : ∀ m : List ((Int × Int) × Bool), listAs (.pair (.pair (.int .i64) (.int .i64)) .bool) ⟨.sl (.pair (.pair (.int .i64) (.int .i64)) .bool), m⟩ = m := fun m => listAs_d (t := .pair (.pair (.int .i64) (.int .i64)) .bool) m
    show HSpec.mk _ [(1000000, TObj.un (.mapQ .i64 false .bool (listAs (.pair (.pair (.int .i64) (.int .i64)) .bool) ⟨.sl (.pair (.pair (.int .i64) (.int .i64)) .bool), m⟩))), _] _ [(1000000, TObj.un (.mapQ .i64 false .bool (listAs (.pair (.pair (.int .i64) (.int .i64)) .bool) ⟨.sl (.pair (.pair (.int .i64) (.int .i64)) .bool), (m.filter fun x : (Int × Int) × Bool => !decide (x.1.1 = f) : List ((Int × Int) × Bool))⟩))), _] = _
    rw [hl, hl]
    rfl
  exact (congrArg (MeetsH Try.prog 58) e1).mpr key
end Go.Proofs.Ytanpfcdbfdkclaa
