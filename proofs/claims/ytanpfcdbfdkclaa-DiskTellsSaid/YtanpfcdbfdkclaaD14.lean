/-
  The bound of the second form of statement, at slices and texts.
-/
import Derived.Test.YtanpfcdbfdkclaaD13
import Derived.Test.YtanpfcdbfdkclaaRows
namespace Go.Proofs.Ytanpfcdbfdkclaa.bulks
open Go.Lad Go.RowKit Go.ChangeShapes Go.WideShapes Go.Deep
theorem one_le {H : Type} (d : DataW H) : 1 ≤ Rows.uptoBulk d := by
  cases d with
  | lit l => cases l <;> simp [Rows.uptoBulk]
  | nil => simp [Rows.uptoBulk]
  | ptr d => simp [Rows.uptoBulk]
  | slice elems spare => simp [Rows.uptoBulk]
  | agg parts => simp [Rows.uptoBulk]
  | iface t d => simp [Rows.uptoBulk]
  | map entries => simp [Rows.uptoBulk]
  | held h => simp [Rows.uptoBulk]
theorem length_le {H : Type} (l : List (DataW H)) : l.length ≤ Rows.uptoBulkAll l := by
  induction l with
  | nil => simp [Rows.uptoBulkAll]
  | cons x r ih => have := one_le x; simp only [Rows.uptoBulkAll, List.length_cons]; omega
theorem tsl_len {e : Ty} {w : World} {x : TD (.sl e)} {A : Option Addr} {n c : Nat} (h : GoRep.rd (Old w) w (Value.slice A n c).cells.toList x) : @List.length e.den x = n := by
  have h : RdL (Old w) w [.sl (List.map (enc e) x)] [Value.slice A n c] := h
  have h := h.2 0 _ _ rfl rfl
  obtain ⟨A', c', z, hv, _⟩ := Rd.to_sl h
  injection hv with _ hv
  exact (hv.trans (@List.length_map _ _ x (enc e))).symm
theorem tsl_max {e : Ty} {w : World} {x : TD (.sl e)} {A : Option Addr} {n c : Nat} (h : GoRep.rd (Old w) w (Value.slice A n c).cells.toList x) : @List.length e.den x ≤ 9223372036854775807 := by
  rw [tsl_len h]
  have h : RdL (Old w) w [.sl (List.map (enc e) x)] [Value.slice A n c] := h
  have h := h.2 0 _ _ rfl rfl
  obtain ⟨A', c', z, hv, hs, _⟩ := Rd.to_sl h
  injection hv with _ hv hc
  have h1 := hs.cap
  have h2 := hs.max
  rw [← hv] at h1
  omega
end Go.Proofs.Ytanpfcdbfdkclaa.bulks
