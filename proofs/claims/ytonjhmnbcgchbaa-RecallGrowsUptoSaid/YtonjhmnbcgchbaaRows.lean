/-
  No cell of these rows narrows 'for every input' (looked for: loops, veiled, ifaces, maps, wideKeys, modest, calm, conditions, laid).
  DERIVED. THE GIVEN ROWS OF THIS SEAT. 4 by the template 'for every input the law returns true; each argument reads behind the call as it read before'; 0 by the template 'total and deterministic' (their statements: YtonjhmnbcgchbaaTotals.lean).
  GIVEN WITH THE SEED: the statements are not yours to turn. If you find one false, say at which input.
  Laid BY PROGRAM, IN A SANDBOX (cutbox-rows.mjs): the forced cells as the released guide's own fill.sh prints them over the translation 0e4afb227257dd5a… (all of the seat's roots in one cut). By AI agents, Wed Nov 11 2026. No macro, syntax, notation, axiom, sorry.
-/
import Derived.Test.YtonjhmnbcgchbaaChecked
import GoSem.Claim
import GoSem.ClaimJoined
import GoSem.ClaimMapViews
import Derived.JoinedTies
import Derived.KernelRfl
namespace Go.Proofs.Ytonjhmnbcgchbaa
/- THE CELL 'sum', in the pinned program and in every row, IS THE sha256 OF THE DUMP (.gsa) THAT YtonjhmnbcgchbaaProg.lean LOADS. Nothing in Lean hashes anything: it is a label: what it is worth is what the hold of that sum in a sandbox is worth. -/
noncomputable def Try.pinned : Pinned := { name := "ytonjhmnbcgchbaa", sum := "0e4afb227257dd5a04d7713c9726fac3c0c6413c25fd977b6814aa1ce6af2172", checked := Try.checked }
namespace Rows
def none {H : Type} : Left H := { results := [], args := [] }

/-- 'ladinglaw46.RecallTells': WHATEVER THE INPUT: true; the input reads as it did. -/
def recallTellsSpec : ChangeSpec := { name := "recallTells", fn := fun _ => fun
  | [d1, d2, d3, d4] => { results := [.lit (.bool true)], args := [d1, d2, d3, d4] }
  | _ => none }
def recallTellsRow : OpenClaim := { program := "ytonjhmnbcgchbaa", sum := "0e4afb227257dd5a04d7713c9726fac3c0c6413c25fd977b6814aa1ce6af2172", func := "lading/ladinglaw46.RecallTells", spec := "recallTells", unfollowed := true, recurses := true, apart := false }
def RecallTellsSaid : Prop := recallTellsRow.holds Try.pinned (OpenSpec.ofChange recallTellsSpec)

/-- ITS FALSE NEIGHBOUR: 'it returns false'. Refute it at one input. -/
def recallTellsWrong : ChangeSpec := { name := "recallTells", fn := fun _ => fun
  | [d1, d2, d3, d4] => { results := [.lit (.bool false)], args := [d1, d2, d3, d4] }
  | _ => none }
def RecallTellsWrongFalsely : Prop := recallTellsRow.holds Try.pinned (OpenSpec.ofChange recallTellsWrong)

/-- 'ladinglaw46.RecallLeast': WHATEVER THE INPUT: true; the input reads as it did. -/
def recallLeastSpec : ChangeSpec := { name := "recallLeast", fn := fun _ => fun
  | [d1, d2] => { results := [.lit (.bool true)], args := [d1, d2] }
  | _ => none }
def recallLeastRow : OpenClaim := { program := "ytonjhmnbcgchbaa", sum := "0e4afb227257dd5a04d7713c9726fac3c0c6413c25fd977b6814aa1ce6af2172", func := "lading/ladinglaw46.RecallLeast", spec := "recallLeast", unfollowed := true, recurses := true, apart := false }
def RecallLeastSaid : Prop := recallLeastRow.holds Try.pinned (OpenSpec.ofChange recallLeastSpec)

/-- ITS FALSE NEIGHBOUR: 'it returns false'. Refute it at one input. -/
def recallLeastWrong : ChangeSpec := { name := "recallLeast", fn := fun _ => fun
  | [d1, d2] => { results := [.lit (.bool false)], args := [d1, d2] }
  | _ => none }
def RecallLeastWrongFalsely : Prop := recallLeastRow.holds Try.pinned (OpenSpec.ofChange recallLeastWrong)

/-- 'ladinglaw46.RecallChecks': WHATEVER THE INPUT: true; the input reads as it did. -/
def recallChecksSpec : ChangeSpec := { name := "recallChecks", fn := fun _ => fun
  | [d1, d2, d3, d4] => { results := [.lit (.bool true)], args := [d1, d2, d3, d4] }
  | _ => none }
def recallChecksRow : OpenClaim := { program := "ytonjhmnbcgchbaa", sum := "0e4afb227257dd5a04d7713c9726fac3c0c6413c25fd977b6814aa1ce6af2172", func := "lading/ladinglaw46.RecallChecks", spec := "recallChecks", unfollowed := true, recurses := true, apart := false }
def RecallChecksSaid : Prop := recallChecksRow.holds Try.pinned (OpenSpec.ofChange recallChecksSpec)

/-- ITS FALSE NEIGHBOUR: 'it returns false'. Refute it at one input. -/
def recallChecksWrong : ChangeSpec := { name := "recallChecks", fn := fun _ => fun
  | [d1, d2, d3, d4] => { results := [.lit (.bool false)], args := [d1, d2, d3, d4] }
  | _ => none }
def RecallChecksWrongFalsely : Prop := recallChecksRow.holds Try.pinned (OpenSpec.ofChange recallChecksWrong)

/-- 'ladinglaw46.RecallGrows': WHATEVER THE INPUT: true; the input reads as it did. -/
def recallGrowsSpec : ChangeSpec := { name := "recallGrows", fn := fun _ => fun
  | [d1, d2, d3, d4] => { results := [.lit (.bool true)], args := [d1, d2, d3, d4] }
  | _ => none }
def recallGrowsRow : OpenClaim := { program := "ytonjhmnbcgchbaa", sum := "0e4afb227257dd5a04d7713c9726fac3c0c6413c25fd977b6814aa1ce6af2172", func := "lading/ladinglaw46.RecallGrows", spec := "recallGrows", unfollowed := true, recurses := true, apart := false }
def RecallGrowsSaid : Prop := recallGrowsRow.holds Try.pinned (OpenSpec.ofChange recallGrowsSpec)

/-- ITS FALSE NEIGHBOUR: 'it returns false'. Refute it at one input. -/
def recallGrowsWrong : ChangeSpec := { name := "recallGrows", fn := fun _ => fun
  | [d1, d2, d3, d4] => { results := [.lit (.bool false)], args := [d1, d2, d3, d4] }
  | _ => none }
def RecallGrowsWrongFalsely : Prop := recallGrowsRow.holds Try.pinned (OpenSpec.ofChange recallGrowsWrong)

/- THE SECOND FORM. 'bulk': how many values and letters a reading holds, each counted each time it is reached (what is shared counts as often as it is met; a slice's spare places count too). A statement '..UptoSaid' is the law's where the arguments, and the package variables that the reading takes, are together of bulk at most 1048576: NARROWER than '..Said'. Prove '..Said' where nothing that the law and all that it calls make is longer than what came in: it says more and counts as full. Else prove '..UptoSaid'. A law counts once. -/
mutual
def uptoBulk {H : Type} : DataW H → Nat
  | .lit (.string bytes) => bytes.length + 1
  | .lit _ => 1
  | .nil => 1
  | .ptr d => uptoBulk d + 1
  | .slice elems spare => uptoBulkAll elems + uptoBulkAll spare + 1
  | .agg parts => uptoBulkAll parts + 1
  | .iface _ d => uptoBulk d + 1
  | .map entries => uptoBulkEntries entries + 1
  | .held _ => 1
def uptoBulkAll {H : Type} : List (DataW H) → Nat
  | [] => 0
  | d :: r => uptoBulk d + uptoBulkAll r
def uptoBulkEntries {H : Type} : List (Lit × DataW H) → Nat
  | [] => 0
  | x :: r => uptoBulkEntry x + uptoBulkEntries r
def uptoBulkEntry {H : Type} : Lit × DataW H → Nat
  | (.string bytes, d) => bytes.length + uptoBulk d + 1
  | (_, d) => uptoBulk d + 1
 end
def uptoSmall : (H : Type) → List (DataW H) → Bool := fun _ ds => decide (uptoBulkAll ds ≤ 1048576)
def OpenSpec.upto (s : _root_.Go.ChangeSpec) : _root_.Go.OpenSpec := { _root_.Go.OpenSpec.ofChange s with cond := some uptoSmall }

/-- 'ladinglaw46.RecallTells', WHERE WHAT IT READS IS OF BULK AT MOST 1048576: true; the input reads as it did. -/
def recallTellsUptoRow : OpenClaim := { program := "ytonjhmnbcgchbaa", sum := "0e4afb227257dd5a04d7713c9726fac3c0c6413c25fd977b6814aa1ce6af2172", func := "lading/ladinglaw46.RecallTells", spec := "recallTells", unfollowed := true, recurses := true, apart := false, narrowed := true }
def RecallTellsUptoSaid : Prop := recallTellsUptoRow.holds Try.pinned (OpenSpec.upto recallTellsSpec)

/-- 'ladinglaw46.RecallLeast', WHERE WHAT IT READS IS OF BULK AT MOST 1048576: true; the input reads as it did. -/
def recallLeastUptoRow : OpenClaim := { program := "ytonjhmnbcgchbaa", sum := "0e4afb227257dd5a04d7713c9726fac3c0c6413c25fd977b6814aa1ce6af2172", func := "lading/ladinglaw46.RecallLeast", spec := "recallLeast", unfollowed := true, recurses := true, apart := false, narrowed := true }
def RecallLeastUptoSaid : Prop := recallLeastUptoRow.holds Try.pinned (OpenSpec.upto recallLeastSpec)

/-- 'ladinglaw46.RecallChecks', WHERE WHAT IT READS IS OF BULK AT MOST 1048576: true; the input reads as it did. -/
def recallChecksUptoRow : OpenClaim := { program := "ytonjhmnbcgchbaa", sum := "0e4afb227257dd5a04d7713c9726fac3c0c6413c25fd977b6814aa1ce6af2172", func := "lading/ladinglaw46.RecallChecks", spec := "recallChecks", unfollowed := true, recurses := true, apart := false, narrowed := true }
def RecallChecksUptoSaid : Prop := recallChecksUptoRow.holds Try.pinned (OpenSpec.upto recallChecksSpec)

/-- 'ladinglaw46.RecallGrows', WHERE WHAT IT READS IS OF BULK AT MOST 1048576: true; the input reads as it did. -/
def recallGrowsUptoRow : OpenClaim := { program := "ytonjhmnbcgchbaa", sum := "0e4afb227257dd5a04d7713c9726fac3c0c6413c25fd977b6814aa1ce6af2172", func := "lading/ladinglaw46.RecallGrows", spec := "recallGrows", unfollowed := true, recurses := true, apart := false, narrowed := true }
def RecallGrowsUptoSaid : Prop := recallGrowsUptoRow.holds Try.pinned (OpenSpec.upto recallGrowsSpec)

end Rows
end Go.Proofs.Ytonjhmnbcgchbaa
