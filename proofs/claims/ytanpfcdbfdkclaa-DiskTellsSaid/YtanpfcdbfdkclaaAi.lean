/-
  Layer 02 (disk): numbers that are read are in range.
-/
import Derived.Test.YtanpfcdbfdkclaaD14
import Derived.Test.YtanpfcdbfdkclaaKRun
import Derived.Test.YtanpfcdbfdkclaaK3
namespace Go.Proofs.Ytanpfcdbfdkclaa
open Go.Lad Go.RowKit
set_option linter.unusedVariables false
theorem act_in {w : World} {x : List GAct} {A : Option Addr} {n c : Nat} (h : GoRep.rd (α := TD (.sl GActT)) (Old w) w (Value.slice A n c).cells.toList x) : ∀ a ∈ x, InA a := by
  have h : RdL (Old w) w [.sl (List.map (enc GActT) x)] [Value.slice A n c] := h
  have h := h.2 0 _ _ rfl rfl
  intro a ha
  obtain ⟨i, hi⟩ := List.getElem?_of_mem ha
  generalize hv : Value.slice A n c = v at h
  generalize hp : PV.sl (List.map (enc GActT) x) = p at h
  cases h with
  | sl0 =>
    injection hp with hp
    have : x = [] := (List.map_eq_nil_iff (f := enc GActT) (l := x)).1 hp
    rw [this] at hi; simp at hi
  | sl us h0 hF hb hc hm hz hcell hrd =>
    injection hp with hp
    subst hp
    have h1 := hrd i 2 (enc GActT a) (.int .i64 a.2.2.1) ((List.getElem?_map (f := enc GActT) (l := x) (i := i)).trans (congrArg (Option.map (enc GActT)) hi)) rfl
    generalize hq : us i 2 = v2 at h1
    cases h1 with
    | int h2 => exact h2.2
  | _ => cases hp
end Go.Proofs.Ytanpfcdbfdkclaa
