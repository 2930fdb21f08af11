/-
  The package variable of type int that no row lists: that it is some int, by the shape of the world.
-/
import Derived.Test.YtkhlbajdoaokeaaDoorRows
import Derived.Test.YtkhlbajdoaokeaaDoorAb17
namespace Go.Proofs.YtkhlbajdoaokeaaDoor
open Go.Lad
set_option linter.unusedVariables false

theorem gMax0 : (((begin Tryd.prog (fun _ _ => 0) default).world.heap[0]?).bind Obj.row?) = some (#[.int .i64 0], 3) := by kernel_rfl
theorem gMax1 : Tryd.prog.buildable 3 = true := by kernel_rfl
theorem gMax2 : Tryd.prog.cellTypes Tryd.prog.depth 3 = some [3] := by kernel_rfl
theorem gMax3 : Tryd.prog.globals.size = 3 := by kernel_rfl
theorem glob_of_shape {W : World} (h : W.ShapedOpen Tryd.prog) : GlobR (fun _ => 0) W := by
  intro g hg
  have ht : ∀ g cs, gtab g ≠ some cs := fun g cs e => by unfold gtab at e; cases e
  have h0 : g = 0 := by
    rcases hg with h1 | h1
    · unfold gtab at h1; cases h1
    · unfold gany at h1; split at h1
      · rfl
      · cases h1
  subst h0
  obtain ⟨cs, hh, hs, hr⟩ := h.1 0 _ _ (by rw [gMax3]; decide) gMax0
  obtain ⟨ts, hts, _, hall⟩ := hr gMax1
  rw [gMax2] at hts
  cases hts
  have h1 : 0 < cs.size := by rw [hs]; decide
  obtain ⟨u, hu', hok⟩ := hall 0 cs[0] (by simp [h1])
  have : u = 3 := by simpa using hu'.symm
  subst this
  have hcell : W.cell? ⟨0, 0, none⟩ = some cs[0] := by simp [World.cell?, hh, h1]
  refine ⟨rfl, ?_, fun cs e => absurd e (ht 0 cs), fun _ => ?_⟩
  · apply Classical.byContradiction
    intro hn
    have : W.heap[0]? = none := Array.getElem?_eq_none (by omega)
    simp [this] at hh
  · rw [hcell]
    unfold Cell.ok at hok
    rw [Tryd.underlying3] at hok
    cases hv : cs[0] <;> rw [hv] at hok <;> first | (obtain ⟨rfl, _⟩ := hok; exact ⟨_, rfl⟩) | exact hok.elim | simp at hok
end Go.Proofs.YtkhlbajdoaokeaaDoor
