/-
  The bound of the second form of statement, at slices and texts.
-/
import Derived.Test.YthibbellkcdodaaD13
import Derived.Test.YthibbellkcdodaaRows
namespace Go.Proofs.Ythibbellkcdodaa.bulks
open Go.Lad Go.RowKit Go.ChangeShapes Go.WideShapes Go.Deep
theorem one_le {H : Type} (d : DataW H) : 1 ≤ Rows.uptoBulk d := by
  cases d with
  | lit l => cases l <;> simp [Rows.uptoBulk]
  | nil => simp [Rows.uptoBulk]
  | ptr d => simp [Rows.uptoBulk]
  | slice elems spare => simp [Rows.uptoBulk]
  | agg parts => simp [Rows.uptoBulk]
  | iface t d => simp [Rows.uptoBulk]
  | map entries => simp [Rows.uptoBulk]
  | held h => simp [Rows.uptoBulk]
theorem length_le {H : Type} (l : List (DataW H)) : l.length ≤ Rows.uptoBulkAll l := by
  induction l with
  | nil => simp [Rows.uptoBulkAll]
  | cons x r ih => have := one_le x; simp only [Rows.uptoBulkAll, List.length_cons]; omega
theorem slice_len {P : Program} {T e : TypeId} (ht : P.underlying T = some (.slice e)) {H : Type} {en : TypeId × Value → H} {w : World} {base : Nat} {sp : Nat → Bool} {held : Bool} {A : Option Addr} {n c : Nat} {d : DataW H} {ps : List MemPlace}
    (h : DataW.Trod en P w base sp held T (.slice A n c) d ps) : n ≤ Rows.uptoBulk d := by
  obtain ⟨fuel, h⟩ := h
  have h : DataW.trod en P w base sp held fuel T [.slice A n c] = some (d, ps) := h
  rcases open_slice ht h with ⟨h1, _⟩ | ⟨a, len, cap, m, k, D, Pl, h1, _, _, _, _, h2, _⟩
  · injection h1 with h1
    injection h1 with _ h1
    omega
  · injection h1 with h1
    injection h1 with _ h1
    injection h2 with h2
    subst h2
    have := length_le ((List.range len).map D)
    rw [List.length_map, List.length_range] at this
    simp only [Rows.uptoBulk]
    omega
theorem tsl_len {e : Ty} {w : World} {x : TD (.sl e)} {A : Option Addr} {n c : Nat} (h : GoRep.rd (Old w) w (Value.slice A n c).cells.toList x) : @List.length e.den x = n := by
  have h : RdL (Old w) w [.sl (List.map (enc e) x)] [Value.slice A n c] := h
  have h := h.2 0 _ _ rfl rfl
  obtain ⟨A', c', z, hv, _⟩ := Rd.to_sl h
  injection hv with _ hv
  exact (hv.trans (@List.length_map _ _ x (enc e))).symm
end Go.Proofs.Ythibbellkcdodaa.bulks
