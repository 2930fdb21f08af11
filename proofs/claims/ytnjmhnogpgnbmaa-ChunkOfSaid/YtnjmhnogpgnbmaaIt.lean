/-
  Layer 36 (chunk): the iterator chunk.parts: its contract.
-/
import Derived.Test.YtnjmhnogpgnbmaaD12
import Derived.Test.YtnjmhnogpgnbmaaPlain
import Derived.Test.YtnjmhnogpgnbmaaItm
import Derived.Test.YtnjmhnogpgnbmaaProg
import Derived.KernelRfl
import Derived.RangeFuncNested
import Derived.RangeFuncBound
import Derived.RangeFuncCalls
import Derived.RangeFuncLeaves
import Derived.Shelf.Abstract
import Derived.Shelf.RegionOpen
import Derived.WalkKit
import Derived.OwnWalkIn
import Derived.TacticsInMore
import Derived.LoopNIn
import Derived.LoopIn
namespace Go.Proofs.Ytnjmhnogpgnbmaa
open Go.Lad Go.RowKit
set_option linter.unusedVariables false
set_option linter.unusedSimpArgs false
noncomputable def itParts : Iter := ⟨48, [.v (.d .str)], [.str], itPartsFn, itPartsAt⟩
theorem its_nil {P : Program} : ∀ it ∈ ([] : List Iter), IterOK P it := fun _ h => nomatch h
theorem its_cons {P : Program} {c : Iter} {l : List Iter} (h : IterOK P c) (t : ∀ k ∈ l, IterOK P k) : ∀ k ∈ c :: l, IterOK P k := fun k hk => by
  rcases List.mem_cons.1 hk with rfl | hk
  · exact h
  · exact t k hk
/-- what the captured variables hold at first -/
theorem parts_in {ol : List TObj} {xs : List (List UInt8)} (h : itPartsFn ol = some xs) : ∃ t u s n, ol = [.box t [.v .str s], .box u [.v (.int .i64) n]] ∧ partsF s n = some xs := by
  unfold itPartsFn at h
  split at h
  · exact ⟨_, _, _, _, rfl, h⟩
  · cases h
theorem parts_at0 (ol : List TObj) (xs) (h : itPartsFn ol = some xs) : itPartsAt ol 0 = ol := by
  obtain ⟨t, u, s, n, rfl, _⟩ := parts_in h
  rfl
theorem parts_len (ol : List TObj) (xs) (h : itPartsFn ol = some xs) (k : Nat) : (itPartsAt ol k).length = ol.length := by
  obtain ⟨t, u, s, n, rfl, _⟩ := parts_in h
  rfl
theorem parts_ids (ol : List TObj) (xs) (h : itPartsFn ol = some xs) (k : Nat) : ∀ o ∈ itPartsAt ol k, o.idsT = [] := by
  obtain ⟨t, u, s, n, rfl, _⟩ := parts_in h
  intro o ho
  have ho : o ∈ [TObj.box t [.v .str (restF s n k)], TObj.box u [.v (.int .i64) n]] := ho
  simp only [List.mem_cons, List.not_mem_nil, or_false] at ho
  rcases ho with rfl | rfl <;> rfl
theorem parts_enter (args : Array Value) (w : World) : (callFunc 48 args).run Try.prog w = .ok (.enter 48 args) w := run_callFunc (by kernel_rfl)

/-! ### the parts, in plain words -/
theorem cutN_nil (n f : Nat) : cutN n f [] = [] := by cases f <;> rfl
theorem cutN_fuel {n : Nat} (hn : 1 ≤ n) (f : Nat) (s : List UInt8) (h : s.length ≤ f) : cutN n f s = cutN n s.length s := by
  induction f using Nat.strongRecOn generalizing s with
  | ind f ih =>
    match f, s, h with
    | 0, [], _ => rfl
    | f + 1, [], _ => rfl
    | f + 1, c :: r, h =>
      have h0 : r.length ≤ f := by simpa using h
      have hd : ((c :: r).drop n).length ≤ r.length := by rw [List.length_drop, List.length_cons]; omega
      have h1 := ih f (by omega) ((c :: r).drop n) (by omega)
      have h2 := ih r.length (by omega) ((c :: r).drop n) hd
      show (c :: r).take n :: cutN n f ((c :: r).drop n) = (c :: r).take n :: cutN n r.length ((c :: r).drop n)
      rw [h1, h2]
theorem cutN_drop {n : Int} (hn : 1 ≤ n) (s : List UInt8) : ∀ k, (cutN n.toNat s.length s).drop k = cutN n.toNat (restF s n k).length (restF s n k)
  | 0 => rfl
  | k + 1 => by
    rw [← List.drop_drop, cutN_drop hn s k]
    show _ = cutN n.toNat ((restF s n k).drop n.toNat).length ((restF s n k).drop n.toNat)
    cases h : restF s n k with
    | nil => rw [List.drop_nil]; rfl
    | cons c r =>
      have hd : ((c :: r).drop n.toNat).length ≤ r.length := by rw [List.length_drop, List.length_cons]; omega
      exact cutN_fuel (by omega) r.length _ hd
theorem rest_end {n : Int} (hn : 1 ≤ n) {s : List UInt8} {k : Nat} (hk : k ≤ (cutN n.toNat s.length s).length) (h : restF s n k = []) : k = (cutN n.toNat s.length s).length := by
  have h1 := cutN_drop hn s k
  rw [h, cutN_nil, List.drop_eq_nil_iff] at h1
  omega
theorem rest_row {n : Int} (hn : 1 ≤ n) {s : List UInt8} {k : Nat} {c : UInt8} {r : List UInt8} (h : restF s n k = c :: r) : ∃ hk : k < (cutN n.toNat s.length s).length, (cutN n.toNat s.length s)[k] = (c :: r).take n.toNat := by
  have h1 := cutN_drop hn s k
  rw [h] at h1
  have hk : k < (cutN n.toNat s.length s).length := by
    refine Classical.byContradiction fun hh => ?_
    rw [List.drop_of_length_le (by omega)] at h1
    cases h1
  refine ⟨hk, ?_⟩
  rw [List.drop_eq_getElem_cons hk] at h1
  exact (List.cons.inj h1).1
attribute [local go_sem] Oper.semAt_some
/-- a store into a variable of one cell -/
theorem store_box {w0 : World} {χ0 : Col} {T0 : Ctx} {tm : Nat → Slot} {hp1 hp2 : Hp} {a : Act} {w : World} {G : Gh} {o : Nat} {t : TypeId} {p : PV} {v v0 : Value} (r : RepG w0 χ0 T0 ⟨tm, hp1⟩ a w G) (hb : Blk w (G.bl o) t #[v0]) (hχ : G.χ (G.bl o) = o + 2)
    (hn : Rd (In G.χ 0) (w.setCell ⟨G.bl o, 0, none⟩ v) p v) (h1 : hp1 o ≠ none) (h2 : hp2 o = some (.box t [.p p])) (h3 : ∀ i, i ≠ o → hp2 i = hp1 i) : RepG w0 χ0 T0 ⟨tm, hp2⟩ a (w.setCell ⟨G.bl o, 0, none⟩ v) G := by
  have hblk : ∀ b, b ≠ G.bl o → (w.setCell ⟨G.bl o, 0, none⟩ v).heap[b]? = w.heap[b]? := fun b hne => Below.heap_setCell w ⟨G.bl o, 0, none⟩ v b hne
  have hsz : (w.setCell ⟨G.bl o, 0, none⟩ v).heap.size = w.heap.size := by show (w.heap.modify _ _).size = _; rw [Array.size_modify]
  have e : Ext G hp1 w G hp2 (w.setCell ⟨G.bl o, 0, none⟩ v) := ⟨fun b hb0 _ => ⟨hb0, hblk b fun e => by subst e; have hb0 : G.χ (G.bl o) = 0 := hb0; omega⟩, fun _ _ => rfl, fun _ _ => rfl, fun i hi => by
    by_cases hio : i = o
    · subst hio; rw [h2]; simp
    · rw [h3 i hio]; exact hi⟩
  have st : Chg [o + 2] G.χ w G.χ (w.setCell ⟨G.bl o, 0, none⟩ v) := ⟨rfl, rfl, rfl, by rw [hsz]; exact Nat.le_refl _, fun _ _ _ => rfl, fun b _ hT => hblk b fun e => hT (by subst e; rw [hχ]; simp)⟩
  have := r.upd (d := none) (x := .dead) (v := undef) (hp' := hp2) (by simp) e st (by simp) (fun b hb => r.norm b (by rw [hsz] at hb; exact hb)) (fun i h hi => by
    by_cases hio : i = o
    · subst hio
      rw [h2] at hi
      injection hi with hi
      subst hi
      exact .inr ⟨[v], by have := hb.set_ 0 v; simpa using this, hχ, rfl, fun j x y hx hy => by
        cases j with
        | zero =>
          simp at hx hy
          subst hx hy
          exact ⟨hn.one, by simp [Leaf.ids], hn⟩
        | succ j => simp at hx⟩
    · rw [h3 i hio] at hi
      exact .inl ⟨hi, by simp; exact hio⟩) trivial
  exact this
def partRow (x : List UInt8) : List Cmp := [.v (.p (.str ⟨x.toArray⟩))]
def lenAt (w : World) (b : Nat) : Nat := match w.cell? ⟨b, 0, none⟩ with | some (.string s) => s.size | _ => 0
def capsAt (t u : TypeId) (s : List UInt8) (n : Int) (k : Nat) : List HObj := (itPartsAt [.box t [.v .str s], .box u [.v (.int .i64) n]] k).map TObj.un
theorem round_end {w0 : World} {χ0 : Col} {T0 : Ctx} {tm : Nat → Slot} {a : Act} {t u : TypeId} {s : List UInt8} {n : Int} {k L l B ot on : Nat} {r : Loop} {I : Nat → Hp → Prop} {hp' : Hp} {G' : Gh} {w' wr : World} {x : ByteArray}
    (hk2 : AtRec w0 χ0 T0 ⟨tm, capsF [ot, on] (capsAt t u s n k) hp'⟩ a l r G' w') (hne : on ≠ ot) (hadr : G'.bl ot = B) (hlen : (restF s n (k + 1)).length < (restF s n k).length) (hsz : (restF s n k).length ≤ 9223372036854775807)
    (hc1 : wr.cell? ⟨B, 0, none⟩ = some (.string ⟨(restF s n k).toArray⟩)) (hI : I (k + 1) hp') (hkk : k + 1 ≤ L) (hx : x = ⟨(restF s n (k + 1)).toArray⟩) :
    (∃ k hp G, k ≤ L ∧ I k hp ∧ AtRec w0 χ0 T0 ⟨tm, capsF [ot, on] (capsAt t u s n k) hp⟩ a l r G (w'.setCell ⟨B, 0, none⟩ (.string x))) ∧ lenAt (w'.setCell ⟨B, 0, none⟩ (.string x)) B < lenAt wr B := by
  subst hx hadr
  have hr2 := hk2.rep
  obtain ⟨vs3, hb3, hχ3, hall3⟩ := hr2.objs ot (.box t [.p (.str ⟨(restF s n k).toArray⟩)]) (by simp [capsF, lookL, capsAt, itPartsAt]; rfl)
  match vs3, hall3.1 with
  | [v], _ =>
  have hcell : w'.cell? ⟨G'.bl ot, 0, none⟩ = some v := by rw [hb3.cell]; rfl
  refine ⟨⟨k + 1, hp', G', hkk, hI, ?_, ?_, hk2.col⟩, ?_⟩
  · refine store_box (t := t) (p := .str ⟨(restF s n (k + 1)).toArray⟩) hr2 hb3 hχ3 (.str (by simp [ByteArray.size]; omega)) (by simp [capsF, lookL, capsAt, itPartsAt]) (by simp [capsF, lookL, capsAt, itPartsAt]; rfl) (fun i hi => ?_)
    simp [capsF, lookL, capsAt, itPartsAt, hi]
  · refine (Below.heap_setCell w' _ _ l ?_).trans hk2.rec_
    intro e
    have e : l = G'.bl ot := e
    have h1 := hk2.rec_
    rw [e, show w'.heap[G'.bl ot]? = _ from hb3] at h1
    cases h1
  · unfold lenAt
    rw [hc1, World.cell?_setCell_same' _ _ _ (by rw [hcell]; rfl)]
    simp [ByteArray.size]
    simpa using hlen
theorem rest_lt {n : Int} (hn : 1 ≤ n) {s : List UInt8} {k : Nat} {c : UInt8} {r : List UInt8} (h : restF s n k = c :: r) : (restF s n (k + 1)).length < (restF s n k).length := by
  show ((restF s n k).drop n.toNat).length < _
  rw [List.length_drop, h, List.length_cons]; omega
theorem parts_law (t u : TypeId) (s : List UInt8) (n : Int) (hn : 1 ≤ n) (rows : List (List Cmp)) (hrows : rows = (cutN n.toNat s.length s).map partRow) : IterLaw Try.prog 48 rows (fun k => (itPartsAt [.box t [.v .str s], .box u [.v (.int .i64) n]] k).map TObj.un) := by
  intro w0 χ0 T0 a tm tg os lb l m r I Jx W hχ hl htg hlb hlen hond hY ⟨hp0, G0, hI0, h0⟩
  have hL : rows.length = (cutN n.toNat s.length s).length := by rw [hrows]; exact List.length_map _
  have hget : ∀ k (h : k < (cutN n.toNat s.length s).length), rows[k]? = some [.v (.p (.str ⟨((cutN n.toNat s.length s)[k]).toArray⟩))] := fun k h => by
    rw [hrows, List.getElem?_map, List.getElem?_eq_getElem h]; rfl
  clear hrows
  match os, hlen 0, hond with
  | [ot, on], _, hond =>
  have hne : on ≠ ot := fun e => (List.nodup_cons.1 hond).1 (by rw [e]; exact List.mem_cons_self)
  have hv : SRd G0 _ W (tm tg) (a.tmps.getD tg undef) := h0.rep.tms tg
  rw [htg] at hv
  have hval := LRd.val (show LRd G0 _ W (.fn (2 * 48) [ot, on]) (a.tmps.getD tg undef) from hv)
  have hlb2 : lb = #[ptr (G0.bl ot) 0, ptr (G0.bl on) 0] := by
    have h1 : a.tmps.getD tg undef = fnV (2 * 48) ([ot, on].map fun o => ptr (G0.bl o) 0) := hval
    rw [fnV_even, hlb] at h1
    injection h1 with _ _ h1
  subst hlb2
  refine callsIn_of_wp Try.func48 rfl trivial ?_ rfl
  simp only [Try.ntmps48, ptr, List.size_toArray, List.length_cons, List.length_nil, Nat.reduceAdd, Nat.reduceSub, Array.replicate_succ, Array.replicate_zero, List.push_toArray, List.append_toArray, List.nil_append, List.cons_append]
  gi_wp2
  gi_loopw [4] (fun p wr => ∃ (k : Nat) (hp : Hp) (G : Gh), k ≤ (cutN n.toNat s.length s).length ∧ I k hp ∧ AtRec w0 χ0 T0 ⟨tm, capsF [ot, on] ((itPartsAt [.box t [.v .str s], .box u [.v (.int .i64) n]] k).map TObj.un) hp⟩ a l r G wr)
    (fun p wr => lenAt wr (G0.bl ot))
  case atStart => exact ⟨0, hp0, G0, Nat.zero_le _, hI0, h0⟩
  case round =>
    obtain ⟨k, hp, G, hkl, hIk, hk⟩ := hrel
    have hr := hk.rep
    have hv2 : SRd G _ wr (tm tg) (a.tmps.getD tg undef) := hr.tms tg
    rw [htg] at hv2
    have hval2 := LRd.val (show LRd G _ wr (.fn (2 * 48) [ot, on]) (a.tmps.getD tg undef) from hv2)
    have hadr : G.bl ot = G0.bl ot ∧ G.bl on = G0.bl on := by
      have h1 : a.tmps.getD tg undef = fnV (2 * 48) ([ot, on].map fun o => ptr (G.bl o) 0) := hval2
      rw [fnV_even, hlb] at h1
      injection h1 with _ _ h1
      simp [ptr] at h1
      exact ⟨h1.1.symm, h1.2.symm⟩
    obtain ⟨vs, hb, _, hall⟩ := hr.objs ot (.box t [.p (.str ⟨(restF s n k).toArray⟩)]) (by simp [capsF, lookL, itPartsAt]; rfl)
    obtain ⟨vs2, hb2, _, hall2⟩ := hr.objs on (.box u [.p (.int .i64 n)]) (by simp [capsF, lookL, itPartsAt, hne]; rfl)
    rw [hadr.1] at hb
    rw [hadr.2] at hb2
    have hc1 : wr.cell? ⟨G0.bl ot, 0, none⟩ = some (.string ⟨(restF s n k).toArray⟩) := by
      rw [hb.cell]
      have h1 := hall.1
      match vs, h1 with
      | [v], _ =>
        have h2 := (hall.2 0 _ v rfl rfl).val
        cases h2
        rfl
    have hc2 : wr.cell? ⟨G0.bl on, 0, none⟩ = some (.int .i64 n) := by
      rw [hb2.cell]
      have h1 := hall2.1
      match vs2, h1 with
      | [v], _ =>
        have h2 := (hall2.2 0 _ v rfl rfl).val
        cases h2
        rfl
    cases hrest : restF s n k with
    | nil =>
      rw [hrest] at hc1
      gi_wp2
      go_end0
      have hkl := rest_end hn hkl hrest
      subst hkl
      refine ⟨⟨_, rfl⟩, .inl ⟨hp, ?_, G, ?_⟩⟩
      · first | exact hIk | (rw [hL]; exact hIk)
      · first | exact hk | (rw [hL]; exact hk)
    | cons c0 rest =>
      rw [hrest] at hc1
      obtain ⟨hk', hrow⟩ := rest_row hn hrest
      have hkr : k < rows.length := by rw [hL]; exact hk'
      have hgk : rows[k] = [.v (.p (.str ⟨((c0 :: rest).take n.toNat).toArray⟩))] := by
        have h1 := hget k hk'
        rw [List.getElem?_eq_getElem hkr, hrow] at h1
        exact Option.some.inj h1
      have hsz : (restF s n k).length ≤ 9223372036854775807 := by
        have h1 := hall.1
        match vs, h1 with
        | [v], _ =>
          have h2 := (hall.2 0 _ v rfl rfl).val
          have h3 : Rd (In G.χ 0) wr (.str ⟨(restF s n k).toArray⟩) v := h2
          cases h3 with
          | str h4 => exact by simpa [ByteArray.size] using h4
      have hvs : All2 (CRd G (capsF [ot, on] ((itPartsAt [.box t [.v .str s], .box u [.v (.int .i64) n]] k).map TObj.un) hp) wr) rows[k] [.string ⟨((c0 :: rest).take n.toNat).toArray⟩] := by
        rw [hgk]
        refine ⟨rfl, fun i x v hx hv => ?_⟩
        cases i with
        | zero =>
          simp at hx hv
          subst hx hv
          rw [hrest] at hsz
          exact ⟨rfl, by simp [Leaf.ids], .str (by simp [ByteArray.size]; simp at hsz; omega)⟩
        | succ i => simp at hx
      obtain ⟨fn, tmps, assign, body, hy, hR⟩ := hY (m - 1) k hkr hp G wr _ hIk hk hvs
      gi_wp2
      · have e : ((⟨(c0 :: rest).toArray⟩ : ByteArray).extract 0 (rest.length + 1)) = ⟨((c0 :: rest).take n.toNat).toArray⟩ := by
          refine (mkS_extract (c0 :: rest) 0 (rest.length + 1)).trans ?_
          rw [List.drop_zero, List.take_of_length_le (by simp), List.take_of_length_le (by simp; omega)]; rfl
        rw [e, hy]
        refine ⟨by simp [Fence.wide], hR.mono fun e' w' hq => ?_⟩
        rcases hq with ⟨rfl, hp', G', hI', hk2⟩ | ⟨rfl, hJ⟩
        · -- the cells that region 3 reads, and the store
          have hr2 := hk2.rep
          have hv3 : SRd G' _ w' (tm tg) (a.tmps.getD tg undef) := hr2.tms tg
          rw [htg] at hv3
          have hval3 := LRd.val (show LRd G' _ w' (.fn (2 * 48) [ot, on]) (a.tmps.getD tg undef) from hv3)
          have hadr2 : G'.bl ot = G0.bl ot := by
            have h1 : a.tmps.getD tg undef = fnV (2 * 48) ([ot, on].map fun o => ptr (G'.bl o) 0) := hval3
            rw [fnV_even, hlb] at h1
            injection h1 with _ _ h1
            simp [ptr] at h1
            exact h1.1.symm
          obtain ⟨vs3, hb3, hχ3, hall3⟩ := hr2.objs ot (.box t [.p (.str ⟨(restF s n k).toArray⟩)]) (by simp [capsF, lookL, itPartsAt]; rfl)
          rw [hadr2] at hb3
          have hc3 : w'.cell? ⟨G0.bl ot, 0, none⟩ = some (.string ⟨(c0 :: rest).toArray⟩) := by
            rw [hb3.cell]
            have h1 := hall3.1
            match vs3, h1 with
            | [v], _ =>
              have h2 := (hall3.2 0 _ v rfl rfl).val
              rw [hrest] at h2
              cases h2
              rfl
          have hf3 := hb3.frozen 0
          gi_wp2
          exact round_end hk2 hne hadr2 (rest_lt hn hrest) hsz (by rw [hrest]; exact hc1) hI' (by omega) (by show _ = (⟨((restF s n k).drop n.toNat).toArray⟩ : ByteArray); rw [hrest, List.drop_of_length_le (by simp; omega)]; rfl)
        · gi_wp2
          (try simp only [Exit.inBlock, Exit.then])
          refine bodyPost_ret (results_none rfl _ _ _) rfl ?_
          exact ⟨⟨_, rfl⟩, .inr hJ⟩
      · have e : ((⟨(c0 :: rest).toArray⟩ : ByteArray).extract 0 n.toNat) = ⟨((c0 :: rest).take n.toNat).toArray⟩ := by
          refine (mkS_extract (c0 :: rest) 0 n.toNat).trans ?_
          rw [List.drop_zero]; rfl
        rw [e, hy]
        refine ⟨by simp [Fence.wide], hR.mono fun e' w' hq => ?_⟩
        rcases hq with ⟨rfl, hp', G', hI', hk2⟩ | ⟨rfl, hJ⟩
        · -- the cells that region 3 reads, and the store
          have hr2 := hk2.rep
          have hv3 : SRd G' _ w' (tm tg) (a.tmps.getD tg undef) := hr2.tms tg
          rw [htg] at hv3
          have hval3 := LRd.val (show LRd G' _ w' (.fn (2 * 48) [ot, on]) (a.tmps.getD tg undef) from hv3)
          have hadr2 : G'.bl ot = G0.bl ot := by
            have h1 : a.tmps.getD tg undef = fnV (2 * 48) ([ot, on].map fun o => ptr (G'.bl o) 0) := hval3
            rw [fnV_even, hlb] at h1
            injection h1 with _ _ h1
            simp [ptr] at h1
            exact h1.1.symm
          obtain ⟨vs3, hb3, hχ3, hall3⟩ := hr2.objs ot (.box t [.p (.str ⟨(restF s n k).toArray⟩)]) (by simp [capsF, lookL, itPartsAt]; rfl)
          rw [hadr2] at hb3
          have hc3 : w'.cell? ⟨G0.bl ot, 0, none⟩ = some (.string ⟨(c0 :: rest).toArray⟩) := by
            rw [hb3.cell]
            have h1 := hall3.1
            match vs3, h1 with
            | [v], _ =>
              have h2 := (hall3.2 0 _ v rfl rfl).val
              rw [hrest] at h2
              cases h2
              rfl
          have hf3 := hb3.frozen 0
          gi_wp2
          exact round_end hk2 hne hadr2 (rest_lt hn hrest) hsz (by rw [hrest]; exact hc1) hI' (by omega) (by show _ = (⟨((restF s n k).drop n.toNat).toArray⟩ : ByteArray); rw [hrest]; refine (mkS_extract (c0 :: rest) n.toNat (rest.length + 1)).trans ?_; rw [List.take_of_length_le (by simp)]; rfl)
        · gi_wp2
          (try simp only [Exit.inBlock, Exit.then])
          refine bodyPost_ret (results_none rfl _ _ _) rfl ?_
          exact ⟨⟨_, rfl⟩, .inr hJ⟩
theorem partsF_some {s : List UInt8} {n : Int} {xs : List (List UInt8)} (h : partsF s n = some xs) : 1 ≤ n ∧ xs = cutN n.toNat s.length s := by
  unfold partsF at h
  rw [leZ_eq] at h
  by_cases hn : 1 ≤ n
  · rw [decide_eq_true hn, cond_true] at h
    injection h with h
    exact ⟨hn, h.symm⟩
  · rw [decide_eq_false hn, cond_false] at h
    cases h
theorem parts_law2 (ol : List TObj) (xs : List (List UInt8)) (h : itPartsFn ol = some xs) : IterLaw Try.prog 48 (xs.map partRow) (fun k => (itPartsAt ol k).map TObj.un) := by
  obtain ⟨t, u, s, n, rfl, h2⟩ := parts_in h
  obtain ⟨hn, rfl⟩ := partsF_some h2
  exact parts_law t u s n hn _ rfl
theorem itParts_ok : IterOK Try.prog itParts := ⟨parts_enter, parts_law2, parts_at0, parts_len, parts_ids⟩
end Go.Proofs.Ytnjmhnogpgnbmaa
