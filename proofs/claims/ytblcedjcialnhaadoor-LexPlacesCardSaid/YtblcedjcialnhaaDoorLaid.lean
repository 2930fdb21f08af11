/-
  The package variable as the row lists it: what the walks ask of it.
-/
import Derived.Test.YtblcedjcialnhaaDoorRows
import Derived.Test.YtblcedjcialnhaaDoorAb17
import Derived.Lib.LaidTab
namespace Go.Proofs.YtblcedjcialnhaaDoor
open Go.Lad
set_option linter.unusedVariables false

theorem cells_of_strs {H : Type} {enc : TypeId × Value → H} {P : Program} {w : World} {base : Nat} {sp : Nat → Bool} {held : Bool} {fuel : Nat} {t e : TypeId} {n : Nat} {cs : List Value} {zs : List (List UInt8)} {p : List MemPlace}
    (ht : P.underlying t = some (.array n e)) (he : P.underlying e = some .string) (hce : P.cellsOf e = 1) (hct : P.cellsOf t = n)
    (h : DataW.trod enc P w base sp held fuel t cs = some (.agg (zs.map fun z => .lit (.string z)), p)) : cs = zs.map fun z => Value.string ⟨z.toArray⟩ := by
  cases fuel with
  | zero => simp [DataW.trod] at h
  | succ fuel =>
    simp only [DataW.trod, ht, hce, hct, Nat.mul_one] at h
    split at h
    · rename_i hl
      obtain ⟨xs, hm, hx⟩ := Option.map_eq_some_iff.1 h
      have hxs : xs.map (·.1) = zs.map fun z => (DataW.lit (.string z) : DataW H) := by
        have := congrArg Prod.fst hx
        simpa using this
      have hxl : xs.length = n := by simpa using Lib.mapM_length hm
      have hzl : zs.length = n := by
        have := congrArg List.length hxs
        simp at this
        omega
      apply List.ext_getElem?
      intro i
      by_cases hi : i < n
      · obtain ⟨b, hb, hf⟩ := Lib.mapM_at hm i i (by simp [hi])
        obtain ⟨z, hc, rfl, _⟩ := DataW.trod_string he hf
        have h1 : cs[i]? = some (.string z) := by
          have := congrArg (·[0]?) hc
          simpa [List.getElem?_take, List.getElem?_drop] using this
        have h2 : (xs.map (·.1))[i]? = some (DataW.lit (.string z.data.toList) : DataW H) := by simp [hb]
        rw [hxs] at h2
        simp only [List.getElem?_map, Option.map_eq_some_iff, DataW.lit.injEq, Lit.string.injEq] at h2
        obtain ⟨z', hz', hz2⟩ := h2
        subst hz2
        simp [h1, hz']
      · rw [List.getElem?_eq_none (by omega), List.getElem?_eq_none (by simp; omega)]
    · cases h

theorem gSig : Tryd.prog.globalNamed "lading/lex.signs" = some 0 := by kernel_rfl
theorem gSigType : (Tryd.prog.globals[0]?).map (·.type) = some 44 := by kernel_rfl
theorem cells44 : Tryd.prog.cellsOf 44 = 14 := by kernel_rfl
theorem cellsStr : Tryd.prog.cellsOf 9 = 1 := by kernel_rfl
abbrev sigL : List (List UInt8) := [[61, 61], [59], [44], [61], [60], [43], [45], [42], [46], [33], [40], [41], [123], [125]]
theorem glob_of_laid {W : World} (h : laidMetH Tryd.prog [("lading/lex.signs", Rows.laid_lading_lex_signs)] W) : GlobR (fun _ => 0) W := by
  obtain ⟨ps, ⟨g', t', cs, fuel, p, q, hg', ht', hvar, hd, _, _⟩, _⟩ := (h : laidMet Tryd.prog [("lading/lex.signs", Rows.laid_lading_lex_signs)] W)
  obtain rfl := Option.some.inj (gSig.symm.trans hg')
  obtain rfl := Option.some.inj (gSigType.symm.trans ht')
  have hc := cells_of_strs (zs := sigL) Tryd.underlying44 Tryd.underlying9 cellsStr cells44 hd
  intro g l hl
  unfold gtab at hl
  split at hl
  · have hl : some (sigL.map fun z => PV.str ⟨z.toArray⟩) = some l := hl
    injection hl with hl
    subst hl
    have hcell : ∀ i, W.cell? ⟨0, i, none⟩ = cs[i]? := World.var?_cell gSig hvar
    have hcs : ∀ i, cs[i]? = (sigL.map fun z => Value.string ⟨z.toArray⟩)[i]? := fun i => by rw [← hc, Array.getElem?_toList]
    refine ⟨rfl, ?_, fun j p hp => ?_⟩
    · have h0 := (hcell 0).trans (hcs 0)
      apply Classical.byContradiction
      intro hn
      have : W.heap[0]? = none := Array.getElem?_eq_none (by omega)
      simp [World.cell?, this] at h0
    · rw [List.getElem?_map] at hp
      obtain ⟨z, hz, rfl⟩ := Option.map_eq_some_iff.1 hp
      refine ⟨?_, ?_⟩
      · have h2 : ∀ z ∈ sigL, z.length ≤ 2 := by decide
        have h3 := h2 z (List.mem_of_getElem? hz)
        show z.toArray.size ≤ 9223372036854775807
        rw [List.size_toArray]; omega
      · rw [hcell, hcs, List.getElem?_map, hz]; rfl
  · cases hl
end Go.Proofs.YtblcedjcialnhaaDoor
