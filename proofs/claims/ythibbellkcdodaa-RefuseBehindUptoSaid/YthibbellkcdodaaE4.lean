/-
  Contracts of library functions that are proved elsewhere: slices.Sort, slices.Delete, slices.Compact of a call's own row of ints.
-/
import Derived.Test.YthibbellkcdodaaD12
import Derived.Sort.OwnSortedInts
import Derived.Lib.SlicesCompact
namespace Go.Lad
set_option linter.unusedVariables false
set_option linter.unusedSimpArgs false
open Go.RowKit

abbrev encI (x : Int) : Value := .int .i64 x
def ints (l : List Int) : List (List PV) := l.map fun x => [PV.int .i64 x]
/-- the world behind: the row's cells anew, more draws, new blocks that nobody names -/
def aft (w : World) (q g off : Nat) (d : List Int) (os : Array Obj) : World := Sort.grow (Sort.putRow encI (Sort.ahead w q) g off d.toArray) os
section
variable {w : World} {q g off : Nat} {d : List Int} {os : Array Obj}
theorem grow_none (w : World) : Sort.grow w #[] = w := by cases w; simp [Sort.grow]
theorem aft_none : Sort.putRow encI (Sort.ahead w q) g off d.toArray = aft w q g off d #[] := by
  unfold aft; rw [grow_none]
theorem aft_size : w.heap.size ≤ (aft w q g off d os).heap.size := by simp [aft, Sort.grow, Sort.putRow, Sort.mapBlock, Sort.ahead]
theorem aft_get {cur : Array Value} {e : TypeId} {fr : Nat × Nat} (hb : w.heap[g]? = some (.cells cur e fr)) : (aft w q g off d os).heap[g]? = some (.cells (Sort.putCells encI off d.toArray cur) e fr) := by
  have hg : g < w.heap.size := (Array.getElem?_eq_some_iff.1 hb).1
  unfold aft
  rw [Sort.heap_grow_old _ _ (by simpa [Sort.putRow, Sort.mapBlock, Sort.ahead] using hg)]
  simp [Sort.putRow, Sort.mapBlock, Sort.ahead, Array.getElem?_modify, hb, Sort.onCells]
theorem aft_other {b : Nat} (hb : b < w.heap.size) (hne : g ≠ b) : (aft w q g off d os).heap[b]? = w.heap[b]? := by
  unfold aft
  rw [Sort.heap_grow_old _ _ (by simpa [Sort.putRow, Sort.mapBlock, Sort.ahead] using hb)]
  simp [Sort.putRow, Sort.mapBlock, Sort.ahead, Array.getElem?_modify, hne]
theorem put_cells {cur : Array Value} {n : Nat} (hn : n ≤ d.length) (h : off + d.length ≤ cur.size) : ((Sort.putCells encI off d.toArray cur).toList.drop off).take n = (d.take n).map encI := by
  apply List.ext_getElem?
  intro j
  by_cases hj : j < n
  · rw [List.getElem?_take_of_lt hj, List.getElem?_drop, Array.getElem?_toList, List.getElem?_map, List.getElem?_take_of_lt hj]
    have h1 : off + j < cur.size := by omega
    have h2 : j < d.length := by omega
    simp [Sort.putCells, h1, h2, show off + j < off + d.length by omega]
  · rw [List.getElem?_take_eq_none (by omega), List.getElem?_eq_none (by simp; omega)]
end
section
variable {w : World} {k e : Nat} {χ : Col} {v : Value} {l : List Int}
theorem rd_intv {F : Nat → Prop} {w : World} {k : IntKind} {n : Int} {v : Value} (h : Rd F w (.int k n) v) : v = .int k n ∧ inK k n := by cases h; exact ⟨rfl, by assumption⟩
theorem ints_at {l : List Int} {j : Nat} (hj : j < l.length) : (ints l)[j]? = some [PV.int .i64 l[j]] := by unfold ints; rw [List.getElem?_map, List.getElem?_eq_getElem hj]; rfl
theorem add_at (g off j : Nat) : (⟨g, off, none⟩ : Addr).add j = ⟨g, off + j, none⟩ := by
  unfold Addr.add
  split
  · rename_i h; subst h; rfl
  · rfl
/-- an own row of ints, in the words of the kit -/
theorem own_ints (h : Own (α := CZ 1) k χ e w v (ints l)) :
    (v = .slice none 0 0 ∧ l = []) ∨ ∃ g cap cur off, v = .slice (some ⟨g, off, none⟩) l.length cap ∧ g < w.heap.size ∧ χ g = k ∧ w.heap[g]? = some (.cells cur e (0, 0)) ∧ l.length ≤ cap ∧ cap ≤ maxLen ∧ off + cap ≤ cur.size ∧ Sort.Holds encI w g off l.toArray ∧ ∀ x ∈ l, inK .i64 x := by
  obtain ⟨xs, hor, hrd⟩ := h.ex
  have hlen : List.length (α := CZ 1) (ints l) = l.length := by show List.length (α := List PV) (ints l) = _; unfold ints; simp
  have hxl : xs.length = l.length := by
    have := hor.1
    rw [show GoRep.sz (CZ 1) = 1 from rfl, Nat.mul_one] at this
    exact this.trans hlen
  rcases hor.2 with ⟨hv, hn⟩ | ⟨g, cap, cur, off, hv, _, hb, hnc, hm, hsz, hxs⟩
  · exact .inl ⟨hv, List.eq_nil_of_length_eq_zero (by rw [← hlen]; exact hn)⟩
  · refine .inr ⟨g, cap, cur, off, by rw [hv]; congr 1, (Array.getElem?_eq_some_iff.1 hb).1, h.col g (by rw [hv]; rfl), hb, by rw [← hlen]; exact hnc, hm, by rw [show GoRep.sz (CZ 1) = 1 from rfl, Nat.mul_one] at hsz; exact hsz, ?_, ?_⟩
    · intro j hj
      have hj : j < l.length := by simpa using hj
      have hrow := hrd j _ (ints_at hj)
      obtain ⟨_, hR⟩ := hrow
      have hch : chunk (GoRep.sz (CZ 1)) j xs = [xs[j]'(by omega)] := by
        show (xs.drop (j * 1)).take 1 = _
        rw [Nat.mul_one, List.drop_eq_getElem_cons (by omega)]; rfl
      rw [hch] at hR
      have hv1 := hR.2 0 _ _ rfl rfl
      have hxj : xs[j]'(by omega) = encI l[j] := (rd_intv hv1).1
      have hcell := oRow.cells hor (g := g) (by rw [hv]; rfl) j (xs[j]'(by omega)) (List.getElem?_eq_getElem (by omega))
      refine ⟨?_, by simp [World.frozen?, hb]⟩
      have ho : hOff v = off := by rw [hv]; rfl
      rw [hxj, ho, add_at] at hcell
      rw [hcell]
      simp [hj]
    · intro x hx
      obtain ⟨j, hj, rfl⟩ := List.mem_iff_getElem.1 hx
      have hrow := hrd j _ (ints_at hj)
      obtain ⟨_, hR⟩ := hrow
      have hch : chunk (GoRep.sz (CZ 1)) j xs = [xs[j]'(by omega)] := by
        show (xs.drop (j * 1)).take 1 = _
        rw [Nat.mul_one, List.drop_eq_getElem_cons (by omega)]; rfl
      rw [hch] at hR
      exact (rd_intv (hR.2 0 _ _ rfl rfl)).2
/-- the first cells of what was put, as an own row -/
theorem own_aft {q g off cap : Nat} {cur : Array Value} {os : Array Obj} {χ' : Col} {k' : Nat} {l' pad : List Int} (hb : w.heap[g]? = some (.cells cur e (0, 0))) (hc : (l' ++ pad).length ≤ cap) (hm : cap ≤ maxLen) (hs : off + cap ≤ cur.size) (hk : χ' g = k') (hi : ∀ x ∈ l', inK .i64 x) :
    Own (α := CZ 1) k' χ' e (aft w q g off (l' ++ pad) os) (.slice (some ⟨g, off, none⟩) l'.length cap) (ints l') := by
  have hlen : List.length (α := CZ 1) (ints l') = l'.length := by show List.length (α := List PV) (ints l') = _; unfold ints; simp
  have hll : l'.length ≤ (l' ++ pad).length := by simp
  refine ⟨⟨l'.map encI, ⟨by rw [List.length_map, hlen]; show _ = _ * 1; omega, .inr ⟨g, cap, _, off, by rw [hlen], Nat.zero_le _, aft_get hb, by rw [hlen]; omega, hm, ?_, ?_⟩⟩, fun j row hj => ?_⟩, fun b hb' => ?_⟩
  · show off + cap * 1 ≤ _
    simp [Sort.putCells]; omega
  · rw [hlen, show GoRep.sz (CZ 1) = 1 from rfl, Nat.mul_one, put_cells hll (by omega), List.take_append_of_le_length (Nat.le_refl _), List.take_length]
  · have hj : (l'.map fun x => [PV.int .i64 x])[j]? = some (show List PV from row) := hj
    rw [List.getElem?_map, Option.map_eq_some_iff] at hj
    obtain ⟨x, hx, rfl⟩ := hj
    obtain ⟨hjl, hxe⟩ := List.getElem?_eq_some_iff.1 hx
    have hch : chunk (GoRep.sz (CZ 1)) j (l'.map encI) = [encI x] := by
      show ((l'.map encI).drop (j * 1)).take 1 = _
      rw [Nat.mul_one, List.drop_eq_getElem_cons (by rw [List.length_map]; exact hjl), List.getElem_map, hxe]; rfl
    rw [hch]
    refine ⟨rfl, rfl, fun i p u hp hu => ?_⟩
    cases i with
    | zero =>
      simp at hp hu
      subst hp hu
      exact .int (hi x (hxe ▸ List.getElem_mem hjl))
    | succ i => simp at hp
  · simp [Value.ownBlock] at hb'
    subst hb'; exact hk
end
/-! ### slices.Sort -/
def sortF (l : List Int) : Option (List Int) := cond (Nat.ble l.length 4000000000) (some (l.mergeSort fun x y => decide (x ≤ y))) none
noncomputable def sortCon (f : FuncId) (e : TypeId) : Con := ⟨f, [.c (.v (.own 1000000))], [], [(1000000, .arr e (.int .i64))], [.sl (.int .i64)], .tup [], [(1000000, .arr e (.int .i64))], [.sl (.int .i64)], fun l => sortF l⟩
theorem sort_con {P : Program} {f : FuncId} {e : TypeId} (hc : callable P f = true)
    (h1 : ∀ (blk off cap : Nat) (zs : List Int) (w : World), Sort.Holds (Value.int .i64) w blk off zs.toArray → blk < w.heap.size → zs.length < 4611686018427387904 →
      Calls P f #[.slice (some ⟨blk, off, none⟩) zs.length cap] w fun e w' => e = .returned (.tuple #[]) ∧ ∃ n os, w' = Sort.grow (Sort.putRow (Value.int .i64) (Sort.ahead w n) blk off (zs.mergeSort fun x y => decide (x ≤ y)).toArray) os)
    (h0 : ∀ (p : Option Addr) (cap : Nat) (w : World), Calls P f #[.slice p 0 cap] w fun e w' => e = .returned (.tuple #[]) ∧ w' = w) : ConOK P (sortCon f e) := by
  refine ⟨hc, fun x r hr => ?_⟩
  obtain ⟨l, rfl⟩ : ∃ m : List Int, m = x := ⟨x, rfl⟩
  obtain ⟨r, rfl⟩ : ∃ m : List Int, m = r := ⟨r, rfl⟩
  have hr : sortF l = some r := hr
  unfold sortF at hr
  obtain ⟨hb, hr⟩ := cond_some hr
  rw [bleN, decide_eq_true_eq] at hb
  injection hr with hr
  have key : MeetsH P f ⟨[.c (.v (.own 1000000))], [(1000000, .arr e 1 (ints l))], .tup [], [(1000000, .arr e 1 (ints r))]⟩ := by
    intro w G vs hnorm hglob hargs hobjs
    obtain ⟨v0, rfl⟩ : ∃ v0, vs = [v0] := by
      have := hargs.1
      match vs, this with
      | [a], _ => exact ⟨a, rfl⟩
    have hv0 : v0 = G.hv 1000000 := (hargs.2 0 _ _ rfl rfl : SRd G _ w _ v0).val
    obtain ⟨hown, hbl⟩ := hobjs 1000000 _ rfl
    have hlen : r.length = l.length := by rw [← hr]; exact List.length_mergeSort l
    rcases own_ints hown with ⟨hv, hl⟩ | ⟨g, cap, cur, off, hv, hg, hcol, hbk, hnc, hm, hs, hH, hin⟩
    · rw [hv0, hv]
      refine (h0 none 0 w).mono ?_
      rintro en w' ⟨rfl, rfl⟩
      subst hl
      have hre : r = [] := List.eq_nil_of_length_eq_zero hlen
      subst hre
      refine ⟨G, _, [], rfl, rfl, rfl, rfl, rfl, Nat.le_refl _, fun b _ _ => ⟨rfl, rfl⟩, fun b h => .inl h, fun _ _ => ⟨rfl, rfl⟩, hnorm, ⟨rfl, fun i x v hx hv => by simp [Rz.comps] at hx⟩, fun o h ho => hobjs o h ho⟩
    · rw [hv0, hv]
      refine (h1 g off cap l w hH hg (by omega)).mono ?_
      rintro en w' ⟨rfl, q, os, rfl⟩
      rw [hr]
      show ∃ (G' : Gh) (v : Value) (us : List Value), _ ∧ _ ∧ (aft w q g off r os).os = w.os ∧ _
      refine ⟨G, _, [], rfl, rfl, rfl, rfl, rfl, aft_size, fun b hb hχ => ⟨aft_other hb (fun e => by subst e; omega), rfl⟩, fun b h => .inl h, fun _ _ => ⟨rfl, rfl⟩, fun b hb => hnorm b (Nat.le_trans aft_size hb), ⟨rfl, fun i x v hx hv => by simp [Rz.comps] at hx⟩, fun o h ho => ?_⟩
      simp only [hpL, lookL] at ho
      split at ho
      · rename_i he
        have he : o = 1000000 := by simpa using he
        subst he
        injection ho with ho
        subst ho
        refine ⟨?_, fun b hb' => hbl b hb'⟩
        have hperm : r.Perm l := by rw [← hr]; exact List.mergeSort_perm _ _
        have := own_aft (q := q) (os := os) (l' := r) (pad := []) (χ' := G.χ) (k' := 1000000 + 2) (e := e) hbk (by rw [List.append_nil]; omega) hm hs hcol (fun x hx => hin x (hperm.mem_iff.1 hx))
        rw [List.append_nil, hlen, ← hv] at this
        exact this
      · cases ho
  have hl : ∀ l : List Int, listAs (.int .i64) ⟨.sl (.int .i64), l⟩ = l := fun l => listAs_d (t := .int .i64) l
  have e1 : (sortCon f e).spec l r = ⟨[.c (.v (.own 1000000))], [(1000000, .arr e 1 (ints l))], .tup [], [(1000000, .arr e 1 (ints r))]⟩ := by
    show HSpec.mk _ [(1000000, TObj.un (.arr e (.int .i64) (listAs (.int .i64) ⟨.sl (.int .i64), l⟩)))] _ [(1000000, TObj.un (.arr e (.int .i64) (listAs (.int .i64) ⟨.sl (.int .i64), r⟩)))] = _
    rw [hl, hl]
    rfl
  show MeetsH P f ((sortCon f e).spec l r)
  rw [e1]
  exact key
/-! ### slices.Delete, slices.Compact: the row is handed back, shorter -/
/-- a row that is handed in comes back, as another -/
theorem back_meets {P : Program} {f : FuncId} {e : TypeId} {l r : List Int} {as : List Slot} (has : ∀ (G : Gh) (hp : Hp) (w : World) (vs : List Value), All2 (SRd G hp w) as vs → ∀ x ∈ as.zip vs, True)
    {H : List Value → Prop}
    (hcall : ∀ (w : World) (v : Value) (us : List Value) (G : Gh) (hp : Hp), All2 (SRd G hp w) as us → ∀ (χ : Col), Own (α := CZ 1) 1000002 χ e w v (ints l) →
      Calls P f (v :: us).toArray w fun en w' => (en = .returned v ∧ w' = w ∧ r = l) ∨ ∃ g cap cur off q pad, v = .slice (some ⟨g, off, none⟩) l.length cap ∧ g < w.heap.size ∧ w.heap[g]? = some (.cells cur e (0, 0)) ∧ cap ≤ maxLen ∧ off + cap ≤ cur.size ∧ en = .returned (.slice (some ⟨g, off, none⟩) r.length cap) ∧ w' = aft w q g off (r ++ pad) #[] ∧ (r ++ pad).length ≤ cap ∧ ∀ x ∈ r, inK .i64 x) :
    MeetsH P f ⟨.c (.v (.own 1000000)) :: as, [(1000000, .arr e 1 (ints l))], .one (.v (.own 0)), [(0, .arr e 1 (ints r)), (1000000, .gone)]⟩ := by
  intro w G vs hnorm hglob hargs hobjs
  obtain ⟨v0, us, rfl⟩ : ∃ v0 us, vs = v0 :: us := by
    have := hargs.1
    match vs, this with
    | a :: l, _ => exact ⟨a, l, rfl⟩
  have hv0 : v0 = G.hv 1000000 := (hargs.2 0 _ _ rfl rfl : SRd G _ w _ v0).val
  obtain ⟨hown, hbl⟩ := hobjs 1000000 _ rfl
  have hown : Own (α := CZ 1) 1000002 G.χ e w v0 (ints l) := by rw [hv0]; exact hown
  have hus : All2 (SRd G (hpL [(1000000, .arr e 1 (ints l))]) w) as us := ⟨by have := hargs.1; simpa using this, fun i a b ha hb => hargs.2 (i + 1) a b (by simpa using ha) (by simpa using hb)⟩
  refine (hcall w v0 us G _ hus G.χ hown).mono ?_
  have hG : ∀ (w' : World) (v' : Value), w'.os = w.os → w'.tape = w.tape → w'.output = w.output → w.heap.size ≤ w'.heap.size → (∀ b, b < w.heap.size → v0.ownBlock ≠ some b → w'.heap[b]? = w.heap[b]?) → v'.ownBlock = v0.ownBlock → v'.oneCell' = true →
      (∀ χ' : Col, (∀ g, v0.ownBlock = some g → χ' g = 2) → (∀ b, χ' b = 0 ↔ G.χ b = 0) → Own (α := CZ 1) 2 χ' e w' v' (ints r)) →
      ∃ (G' : Gh) (v : Value) (us : List Value), Ending.returned v' = .returned v ∧ (Rz.one (.v (.own 0))).val v us ∧ w'.os = w.os ∧ w'.tape = w.tape ∧ w'.output = w.output ∧ w.heap.size ≤ w'.heap.size ∧
      (∀ b, b < w.heap.size → G.χ b ≤ 1 → w'.heap[b]? = w.heap[b]? ∧ G'.χ b = G.χ b) ∧ (∀ b, 2 ≤ G'.χ b → 2 ≤ G.χ b ∨ w.heap.size ≤ b) ∧ (∀ o, 1000000 ≤ o → G'.bl o = G.bl o ∧ G'.hv o = G.hv o) ∧ Norm G'.χ w' ∧
      All2 (CRd G' (hpL [(0, .arr e 1 (ints r)), (1000000, .gone)]) w') (Rz.one (.v (.own 0))).comps us ∧ (∀ o h, hpL [(0, .arr e 1 (ints r)), (1000000, .gone)] o = some h → HRd G' (hpL [(0, .arr e 1 (ints r)), (1000000, .gone)]) w' o h) := by
    intro w' v' c1 c2 c3 c4 c5 c6 c7 c8
    have hcolb : ∀ g, v0.ownBlock = some g → G.χ g = 1000002 := hown.col
    refine ⟨⟨fun b => if v0.ownBlock = some b then 2 else G.χ b, fun o => if o = 0 then v0.ownBlock.getD 0 else G.bl o, fun o => if o = 0 then v' else G.hv o⟩, v', [v'], rfl, rfl, c1, c2, c3, c4, fun b hb hχ => ?_, fun b hb => ?_, fun o ho => ⟨if_neg (by omega), if_neg (by omega)⟩, fun b hb => ?_, ⟨rfl, fun i x v hx hv => ?_⟩, fun o h ho => ?_⟩
    · have hne : v0.ownBlock ≠ some b := fun e => by have := hcolb b e; omega
      exact ⟨c5 b hb hne, if_neg hne⟩
    · dsimp only at hb
      split at hb
      · rename_i he
        exact .inl (by have := hcolb b he; omega)
      · exact .inl hb
    · dsimp only
      split
      · rename_i he
        have h1 := hcolb b he
        have h2 := hnorm b (Nat.le_trans c4 hb)
        rw [h1] at h2
        exact absurd h2 (by decide)
      · exact hnorm b (Nat.le_trans c4 hb)
    · cases i with
      | succ i => simp [Rz.comps] at hx
      | zero =>
        simp [Rz.comps] at hx hv
        subst hx hv
        exact ⟨c7, by simp [Leaf.ids, hpL, lookL], by simp [LVal]⟩
    · simp only [hpL, lookL] at ho
      split at ho
      · rename_i he
        have he : o = 0 := by simpa using he
        subst he
        injection ho with ho
        subst ho
        refine ⟨?_, fun b hb' => ?_⟩
        · show Own (α := CZ 1) 2 _ e w' (if (0 : Nat) = 0 then v' else G.hv 0) (ints r)
          rw [if_pos rfl]
          refine c8 _ (fun g hg => if_pos hg) fun b => ?_
          dsimp only
          split
          · rename_i he
            have := hcolb b he
            rw [this]
            exact ⟨fun h => absurd h (by decide), fun h => absurd h (by decide)⟩
          · exact Iff.rfl
        · have hb' : (if (0 : Nat) = 0 then v' else G.hv 0).ownBlock = some b := hb'
          rw [if_pos rfl, c6] at hb'
          show b = if (0 : Nat) = 0 then v0.ownBlock.getD 0 else G.bl 0
          rw [if_pos rfl, hb']; rfl
      · split at ho
        · injection ho with ho
          subst ho
          trivial
        · cases ho
  rintro en w' (⟨rfl, rfl, rfl⟩ | ⟨g, cap, cur, off, q, pad, hv, hg, hbk, hm, hs, rfl, rfl, hpl, hin⟩)
  · refine hG w' v0 rfl rfl rfl (Nat.le_refl _) (fun b _ _ => rfl) rfl ?_ fun χ' h1 h2 => ?_
    · rcases own_ints hown with ⟨hv, _⟩ | ⟨_, _, _, _, hv, _⟩ <;> rw [hv] <;> rfl
    · refine ⟨?_, h1⟩
      obtain ⟨xs, hor, hrd⟩ := hown.ex
      refine ⟨xs, hor, fun i x hx => ?_⟩
      have := hrd i x hx
      exact ⟨this.1, this.2.frame fun b hb hlt => ⟨(h2 b).2 hb, rfl⟩⟩
  · refine hG _ _ rfl rfl rfl aft_size (fun b hb hne => aft_other hb (fun e => hne (by rw [hv, e]; rfl))) (by rw [hv]; rfl) rfl fun χ' h1 h2 => ?_
    exact own_aft hbk hpl hm hs (h1 g (by rw [hv]; rfl)) hin
def delF (l : List Int) (i j : Int) : Option (List Int) := cond (!Nat.beq l.length 0 && (leZ 0 i && (leZ i j && leZ j (l.length : Int)))) (some (l.take i.toNat ++ l.drop j.toNat)) none
noncomputable def delCon (f : FuncId) (e : TypeId) : Con := ⟨f, [.c (.v (.own 1000000)), .c (.v (.d (.int .i64))), .c (.v (.d (.int .i64)))], [], [(1000000, .arr e (.int .i64))], [.int .i64, .int .i64, .sl (.int .i64)], .one (.v (.own 0)), [(0, .arr e (.int .i64)), (1000000, .gone)], [.sl (.int .i64)], fun x => delF x.2.2 x.1 x.2.1⟩
theorem int_val {G : Gh} {hp : Hp} {w : World} {k : IntKind} {n : Int} {v : Value} (h : SRd G hp w (.c (.v (.p (.int k n)))) v) : v = .int k n := by
  have h1 : Rd (In G.χ 0) w (.int k n) v := (h : LRd G hp w _ v).val
  cases h1; rfl
theorem del_con {P : Program} {f : FuncId} {e : TypeId} (hc : callable P f = true)
    (h1 : ∀ (blk off cap i j : Nat) (zs : List Int) (w : World), Sort.Holds (Value.int .i64) w blk off zs.toArray → zs.length ≤ cap → cap ≤ 9223372036854775807 → i ≤ j → j ≤ zs.length →
      Calls P f #[.slice (some ⟨blk, off, none⟩) zs.length cap, .int .i64 i, .int .i64 j] w fun e w' => e = .returned (.slice (some ⟨blk, off, none⟩) (zs.length - (j - i)) cap) ∧ ∃ q, w' = Sort.putRow (Value.int .i64) (Sort.ahead w q) blk off (zs.take i ++ zs.drop j ++ List.replicate (j - i) 0).toArray) : ConOK P (delCon f e) := by
  refine ⟨hc, fun x r hr => ?_⟩
  obtain ⟨i, j, l⟩ := x
  obtain ⟨i, rfl⟩ : ∃ m : Int, m = i := ⟨i, rfl⟩
  obtain ⟨j, rfl⟩ : ∃ m : Int, m = j := ⟨j, rfl⟩
  obtain ⟨l, rfl⟩ : ∃ m : List Int, m = l := ⟨l, rfl⟩
  obtain ⟨r, rfl⟩ : ∃ m : List Int, m = r := ⟨r, rfl⟩
  have hr : delF l i j = some r := hr
  unfold delF at hr
  obtain ⟨hb, hr⟩ := cond_some hr
  injection hr with hr
  rw [Bool.and_eq_true, Bool.and_eq_true, Bool.and_eq_true, leZ_eq, leZ_eq, leZ_eq, decide_eq_true_eq, decide_eq_true_eq, decide_eq_true_eq] at hb
  obtain ⟨hb0, hb1, hb2, hb3⟩ := hb
  have hl0 : l.length ≠ 0 := by
    rw [beqN] at hb0
    simpa using hb0
  have key : MeetsH P f ⟨[.c (.v (.own 1000000)), .c (.v (.p (.int .i64 i))), .c (.v (.p (.int .i64 j)))], [(1000000, .arr e 1 (ints l))], .one (.v (.own 0)), [(0, .arr e 1 (ints r)), (1000000, .gone)]⟩ := by
    refine back_meets (H := fun _ => True) (fun _ _ _ _ _ _ _ => trivial) fun w v us G hp hus χ hown => ?_
    obtain ⟨a, b, rfl⟩ : ∃ a b, us = [a, b] := by
      have := hus.1
      match us, this with
      | [a, b], _ => exact ⟨a, b, rfl⟩
    have ha := int_val (hus.2 0 _ _ rfl rfl)
    have hb := int_val (hus.2 1 _ _ rfl rfl)
    subst ha hb
    rcases own_ints hown with ⟨hv, hl⟩ | ⟨g, cap, cur, off, hv, hg, hcol, hbk, hnc, hm, hs, hH, hin⟩
    · rw [hl] at hl0; exact absurd rfl hl0
    · obtain ⟨I, rfl⟩ : ∃ I : Nat, i = I := ⟨i.toNat, by omega⟩
      obtain ⟨J, rfl⟩ : ∃ J : Nat, j = J := ⟨j.toNat, by omega⟩
      rw [hv]
      refine (h1 g off cap I J l w hH hnc (by unfold maxLen at hm; omega) (by omega) (by omega)).mono ?_
      rintro en w' ⟨rfl, q, rfl⟩
      have hr' : r = l.take I ++ l.drop J := by rw [← hr, Int.toNat_natCast, Int.toNat_natCast]
      have hrl : r.length = l.length - (J - I) := by rw [hr', List.length_append, List.length_take, List.length_drop]; omega
      refine .inr ⟨g, cap, cur, off, q, List.replicate (J - I) 0, rfl, hg, hbk, hm, hs, by rw [hrl], by rw [hr']; exact aft_none, by rw [List.length_append, List.length_replicate, hrl]; omega, fun x hx => hin x ?_⟩
      rw [hr'] at hx
      rcases List.mem_append.1 hx with hx | hx
      · exact List.mem_of_mem_take hx
      · exact List.mem_of_mem_drop hx
  have hl : ∀ l : List Int, listAs (.int .i64) ⟨.sl (.int .i64), l⟩ = l := fun l => listAs_d (t := .int .i64) l
  have e1 : (delCon f e).spec (i, j, l) r = ⟨[.c (.v (.own 1000000)), .c (.v (.p (.int .i64 i))), .c (.v (.p (.int .i64 j)))], [(1000000, .arr e 1 (ints l))], .one (.v (.own 0)), [(0, .arr e 1 (ints r)), (1000000, .gone)]⟩ := by
    show HSpec.mk _ [(1000000, TObj.un (.arr e (.int .i64) (listAs (.int .i64) ⟨.sl (.int .i64), l⟩)))] _ [(0, TObj.un (.arr e (.int .i64) (listAs (.int .i64) ⟨.sl (.int .i64), r⟩))), (1000000, .gone)] = _
    rw [hl, hl]
    rfl
  show MeetsH P f ((delCon f e).spec (i, j, l) r)
  rw [e1]
  exact key
theorem mem_compact {l : List Int} {x : Int} (h : x ∈ Lib.compact l) : x ∈ l := by
  unfold Lib.compact Lib.compactUpTo at h
  obtain ⟨i, hi, rfl⟩ := List.mem_map.1 h
  have hi := List.mem_range.1 (List.mem_filter.1 hi).1
  simp [hi]
theorem compact_len (l : List Int) : (Lib.compact l).length ≤ l.length := by
  unfold Lib.compact Lib.compactUpTo
  rw [List.length_map]
  exact Nat.le_trans (List.length_filter_le _ _) (by simp)
def compF (l : List Int) : Option (List Int) := cond (Nat.ble l.length 4000000000) (some (Lib.compact l)) none
noncomputable def compCon (f : FuncId) (e : TypeId) : Con := ⟨f, [.c (.v (.own 1000000))], [], [(1000000, .arr e (.int .i64))], [.sl (.int .i64)], .one (.v (.own 0)), [(0, .arr e (.int .i64)), (1000000, .gone)], [.sl (.int .i64)], fun l => compF l⟩
theorem comp_con {P : Program} {f : FuncId} {e : TypeId} (hc : callable P f = true)
    (h1 : ∀ (blk off cap : Nat) (zs : List Int) (w : World), Sort.Holds (Value.int .i64) w blk off zs.toArray → zs.length ≤ 9223372036854775807 → zs.length ≤ cap →
      Calls P f #[.slice (some ⟨blk, off, none⟩) zs.length cap] w fun e w' => e = .returned (.slice (some ⟨blk, off, none⟩) (Lib.compact zs).length cap) ∧ ∃ q, w' = Sort.putRow (Value.int .i64) (Sort.ahead w q) blk off (Lib.compact zs ++ List.replicate (zs.length - (Lib.compact zs).length) 0).toArray)
    (h0 : ∀ (a : Option Addr) (cap : Nat) (w : World), Calls P f #[.slice a 0 cap] w fun e w' => e = .returned (.slice a 0 cap) ∧ w' = w) : ConOK P (compCon f e) := by
  refine ⟨hc, fun x r hr => ?_⟩
  obtain ⟨l, rfl⟩ : ∃ m : List Int, m = x := ⟨x, rfl⟩
  obtain ⟨r, rfl⟩ : ∃ m : List Int, m = r := ⟨r, rfl⟩
  have hr : compF l = some r := hr
  unfold compF at hr
  obtain ⟨hb, hr⟩ := cond_some hr
  rw [bleN, decide_eq_true_eq] at hb
  injection hr with hr
  have hcl := compact_len l
  have key : MeetsH P f ⟨[.c (.v (.own 1000000))], [(1000000, .arr e 1 (ints l))], .one (.v (.own 0)), [(0, .arr e 1 (ints r)), (1000000, .gone)]⟩ := by
    refine back_meets (H := fun _ => True) (fun _ _ _ _ _ _ _ => trivial) fun w v us G hp hus χ hown => ?_
    have hu : us = [] := by
      have := hus.1
      match us, this with
      | [], _ => rfl
    subst hu
    rcases own_ints hown with ⟨hv, hl⟩ | ⟨g, cap, cur, off, hv, hg, hcol, hbk, hnc, hm, hs, hH, hin⟩
    · rw [hv]
      refine (h0 none 0 w).mono ?_
      rintro en w' ⟨rfl, rfl⟩
      refine .inl ⟨rfl, rfl, ?_⟩
      rw [← hr, hl]; rfl
    · rw [hv]
      refine (h1 g off cap l w hH (by omega) hnc).mono ?_
      rintro en w' ⟨rfl, q, rfl⟩
      rw [hr] at hcl ⊢
      refine .inr ⟨g, cap, cur, off, q, List.replicate (l.length - r.length) 0, rfl, hg, hbk, hm, hs, rfl, aft_none, by rw [List.length_append, List.length_replicate]; omega, fun x hx => hin x (mem_compact (by rw [hr]; exact hx))⟩
  have hl : ∀ l : List Int, listAs (.int .i64) ⟨.sl (.int .i64), l⟩ = l := fun l => listAs_d (t := .int .i64) l
  have e1 : (compCon f e).spec l r = ⟨[.c (.v (.own 1000000))], [(1000000, .arr e 1 (ints l))], .one (.v (.own 0)), [(0, .arr e 1 (ints r)), (1000000, .gone)]⟩ := by
    show HSpec.mk _ [(1000000, TObj.un (.arr e (.int .i64) (listAs (.int .i64) ⟨.sl (.int .i64), l⟩)))] _ [(0, TObj.un (.arr e (.int .i64) (listAs (.int .i64) ⟨.sl (.int .i64), r⟩))), (1000000, .gone)] = _
    rw [hl, hl]
    rfl
  show MeetsH P f ((compCon f e).spec l r)
  rw [e1]
  exact key
end Go.Lad
