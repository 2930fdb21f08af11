/-
  Layer 5 (seal): the law's arguments, read as Lean's own data.
-/
import Derived.Test.YtnkpnfmmlkjofaaOpen
import Derived.Test.YtnkpnfmmlkjofaaSealA
namespace Go.Proofs.Ytnkpnfmmlkjofaa
open Go.RowKit Go.Lad
theorem opens_sealed : Opens Try.prog 32 Sealed := by
  refine Opens.via (f := fun e : Sealed => (e.Key, e.Text, ())) (fun x => ⟨x.1, x.2.1⟩) (fun _ => rfl) ?_
  refine opens_struct Try.underlying32 (by kernel_rfl) ?_
  exact opensF_cons rfl (by kernel_rfl) (opens_int Try.underlying3) (opensF_cons rfl (by kernel_rfl) (opens_string Try.underlying9) (opensF_nil _))
theorem opens_signed : Opens Try.prog 24 Signed := by
  refine Opens.via (f := fun e : Signed => (e.Key, e.Text, e.Mark, ())) (fun x => ⟨x.1, x.2.1, x.2.2.1⟩) (fun _ => rfl) ?_
  refine opens_struct Try.underlying24 (by kernel_rfl) ?_
  exact opensF_cons rfl (by kernel_rfl) (opens_int Try.underlying3) (opensF_cons rfl (by kernel_rfl) (opens_string Try.underlying9) (opensF_cons rfl (by kernel_rfl) (opens_int Try.underlying3) (opensF_nil _)))
theorem opens_sealeds : Opens Try.prog 22 (List Sealed) := opens_slice Try.underlying22 (by kernel_rfl) (by decide) opens_sealed
theorem sealed_of_rd {F : Nat → Prop} {w : World} {cs : Array Value} {x : Sealed} (h : GoRep.rd F w (Value.agg cs).cells.toList x) : cs = #[.int .i64 x.Key, .string x.Text] ∧ I64 x.Key ∧ x.Text.size ≤ 9223372036854775807 := by
  obtain ⟨_, _, e, ⟨rfl, h1⟩, _, _, rfl, ⟨rfl, h2⟩, rfl⟩ := h
  exact ⟨Array.toList_inj.1 e, h1, h2⟩
theorem signed_of_rd {F : Nat → Prop} {w : World} {cs : Array Value} {x : Signed} (h : GoRep.rd F w (Value.agg cs).cells.toList x) : cs = #[.int .i64 x.Key, .string x.Text, .int .i64 x.Mark] ∧ I64 x.Key ∧ x.Text.size ≤ 9223372036854775807 ∧ I64 x.Mark := by
  obtain ⟨_, _, e, ⟨rfl, h1⟩, _, _, rfl, ⟨rfl, h2⟩, _, _, rfl, ⟨rfl, h3⟩, rfl⟩ := h
  exact ⟨Array.toList_inj.1 e, h1, h2, h3⟩
end Go.Proofs.Ytnkpnfmmlkjofaa
