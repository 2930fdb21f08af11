/-
  Contracts of library functions that are proved elsewhere: strings.Split.
-/
import Derived.Test.YtkhlbajdoaokeaaDoorE1
import Derived.Lib.Split
import Derived.Lib.SplitLaws
namespace Go.Lad
set_option linter.unusedVariables false
set_option linter.unusedSimpArgs false
open Go.RowKit

def splitF (s sep : Bs) : Option (List Bs) := cond (Nat.ble s.length 1000000000 && Nat.ble 1 sep.length) (some (Lib.split s sep)) none
noncomputable def splitCon (f : FuncId) : Con := ⟨f, [.c (.v (.d .str)), .c (.v (.d .str))], [], [], [.str, .str], .one (.v (.d (.sl .str))), [], [.sl .str], fun x => splitF x.1 x.2⟩
theorem split_rows (s sep : Bs) : Lib.split s sep = (Lib.splitB (mkS sep) 0 (Lib.countB (mkS s) (mkS sep)) (mkS s)).map (·.data.toList) := by
  rw [Lib.splitB_data, mkS_data, mkS_data]
  unfold Lib.split
  congr 1
theorem ext_size (s : ByteArray) (i j : Nat) : (s.extract i j).size ≤ s.size := by rw [ByteArray.size_extract]; omega
theorem splitB_size (sep : ByteArray) : ∀ (k : Nat) (s y : ByteArray), y ∈ Lib.splitB sep 0 k s → y.size ≤ s.size
  | 0, s, y, h => by
    rw [Lib.splitB_zero, List.mem_singleton] at h
    rw [h]; exact Nat.le_refl _
  | k + 1, s, y, h => by
    unfold Lib.splitB at h
    split at h
    · rw [List.mem_singleton] at h
      rw [h]; exact Nat.le_refl _
    · rcases List.mem_cons.1 h with rfl | h
      · exact ext_size _ _ _
      · exact Nat.le_trans (splitB_size sep k _ y h) (ext_size _ _ _)
theorem split_con {P : Program} {f g : FuncId} {t9 : TypeId} (hc : callable P f = true) (hg : gany g = true)
    (h1 : ∀ (s sep : ByteArray) (m : Int) (w : World), s.size < 4294967281 → w.cell? ⟨g, 0, none⟩ = some (.int .i64 m) → 1 ≤ sep.size →
      Calls P f #[.string s, .string sep] w fun e w' => e = .returned (.slice (some ⟨w.heap.size, 0, none⟩) (Lib.countB s sep + 1) (Lib.countB s sep + 1)) ∧ w' = w.alloc (.cells ((Lib.splitB sep 0 (Lib.countB s sep) s).map Value.string).toArray t9)) : ConOK P (splitCon f) := by
  refine ⟨hc, fun x r hr => ?_⟩
  obtain ⟨l, sep⟩ := x
  obtain ⟨l, rfl⟩ : ∃ m : Bs, m = l := ⟨l, rfl⟩
  obtain ⟨sep, rfl⟩ : ∃ m : Bs, m = sep := ⟨sep, rfl⟩
  obtain ⟨r, rfl⟩ : ∃ m : List Bs, m = r := ⟨r, rfl⟩
  have hr : splitF l sep = some r := hr
  unfold splitF at hr
  obtain ⟨hb, hr⟩ := cond_some hr
  rw [Bool.and_eq_true, bleN, bleN, decide_eq_true_eq, decide_eq_true_eq] at hb
  injection hr with hr
  show MeetsH P f ⟨[.c (.v (.p (.str (mkS l)))), .c (.v (.p (.str (mkS sep))))], [], .one (.v (.p (.sl (r.map fun x => [PV.str (mkS x)])))), []⟩
  intro w G vs hnorm hglob hargs _
  obtain ⟨v0, v1, rfl⟩ : ∃ v0 v1, vs = [v0, v1] := by
    have := hargs.1
    match vs, this with
    | [a, b], _ => exact ⟨a, b, rfl⟩
  have r0 : Rd (In G.χ 0) w (.str (mkS l)) v0 := (hargs.2 0 _ _ rfl rfl : SRd G _ w _ v0).val
  have r1 : Rd (In G.χ 0) w (.str (mkS sep)) v1 := (hargs.2 1 _ _ rfl rfl : SRd G _ w _ v1).val
  have hv0 : v0 = .string (mkS l) := by cases r0; rfl
  have hv1 : v1 = .string (mkS sep) := by cases r1; rfl
  subst hv0
  subst hv1
  obtain ⟨_, _, _, h4⟩ := hglob g (.inr hg)
  obtain ⟨m, hm⟩ := h4 hg
  refine (h1 (mkS l) (mkS sep) m w (by rw [mkS_size]; omega) hm (by rw [mkS_size]; omega)).mono ?_
  rintro e w' ⟨rfl, rfl⟩
  have hlen : (Lib.splitB (mkS sep) 0 (Lib.countB (mkS l) (mkS sep)) (mkS l)).length = Lib.countB (mkS l) (mkS sep) + 1 := Lib.splitB_all _ (by rw [mkS_size]; omega) 0 _ _ rfl
  have hle := Lib.countB_le (mkS sep) (by rw [mkS_size]; omega) _ (mkS l) (Nat.le_refl _)
  rw [mkS_size] at hle
  generalize hps : Lib.splitB (mkS sep) 0 (Lib.countB (mkS l) (mkS sep)) (mkS l) = ps at *
  have hrps : r = ps.map (·.data.toList) := by rw [← hr, split_rows, hps]
  have hrl : (r.map fun x => [PV.str (mkS x)]).length = Lib.countB (mkS l) (mkS sep) + 1 := by rw [List.length_map, hrps, List.length_map, hlen]
  have bel : Below w.heap.size w (w.alloc (.cells (ps.map Value.string).toArray t9)) := (Below.refl _ w).alloc (Nat.le_refl _) _
  rw [← hrl]
  refine ⟨G, _, [_], rfl, rfl, bel.os, bel.tape, bel.output, bel.size, fun b hb _ => ⟨bel.block b hb, rfl⟩, fun b hb => .inl hb, fun _ _ => ⟨rfl, rfl⟩, fun b hb => hnorm b (Nat.le_trans bel.size hb), ⟨rfl, fun i x v hx hv => ?_⟩, (fun o h ho => by cases ho)⟩
  cases i with
  | succ i => simp [Rz.comps] at hx
  | zero =>
    simp [Rz.comps] at hx hv
    subst hx hv
    refine ⟨rfl, by simp [Leaf.ids], ?_⟩
    have hsz : ∀ y ∈ ps, y.size ≤ 9223372036854775807 := fun y hy => by
      rw [← hps] at hy
      have := splitB_size _ _ _ y hy
      rw [mkS_size] at this
      omega
    have hlt : w.heap.size < (w.alloc (.cells (ps.map Value.string).toArray t9)).heap.size := by simp
    have hne : (r.map fun x => [PV.str (mkS x)]) ≠ [] := fun e => by rw [e] at hrl; simp at hrl
    have hps2 : ∀ i (x : Bs), r[i]? = some x → ∃ y, ps[i]? = some y ∧ y = mkS x := fun i x hi => by
      rw [hrps, List.getElem?_map, Option.map_eq_some_iff] at hi
      obtain ⟨y, hy, rfl⟩ := hi
      exact ⟨y, hy, rfl⟩
    suffices key : Rd (In G.χ 0) (w.alloc (.cells (ps.map Value.string).toArray t9)) (.sl (r.map fun x => [PV.str (mkS x)])) (.slice (some ⟨w.heap.size, 0, none⟩) (r.map fun x => [PV.str (mkS x)]).length (r.map fun x => [PV.str (mkS x)]).length) by rw [List.length_map] at key; exact key
    refine Rd.sl (z := 1) (fun i _ => .string (ps.getD i ByteArray.empty)) (b := w.heap.size) (off := 0) hne (hnorm _ (Nat.le_refl _)) hlt (Nat.le_refl _) (by rw [hrl]; omega) (fun i cs hi => ?_) (fun i j cs p hi hj => ?_) (fun i j cs p hi hj => ?_)
    · rw [List.getElem?_map, Option.map_eq_some_iff] at hi
      obtain ⟨c, _, rfl⟩ := hi
      rfl
    · rw [List.getElem?_map, Option.map_eq_some_iff] at hi
      obtain ⟨c, hc, rfl⟩ := hi
      obtain ⟨y, hy, _⟩ := hps2 i c hc
      cases j with
      | zero =>
        rw [Nat.zero_add, Nat.mul_one, Nat.add_zero, List.getD_eq_getElem?_getD, hy]
        have hh : (w.alloc (.cells (ps.map Value.string).toArray t9)).heap[w.heap.size]? = some (.cells (ps.map Value.string).toArray t9) := by simp [World.alloc, -World.alloc_eq]
        unfold World.cell?
        rw [hh]
        simp [hy]
      | succ j => simp at hj
    · rw [List.getElem?_map, Option.map_eq_some_iff] at hi
      obtain ⟨c, hc, rfl⟩ := hi
      obtain ⟨y, hy, rfl⟩ := hps2 i c hc
      cases j with
      | zero =>
        simp at hj
        subst hj
        rw [List.getD_eq_getElem?_getD, hy]
        exact .str (hsz _ (List.mem_of_getElem? hy))
      | succ j => simp at hj
end Go.Lad
