/-
  No cell of these rows narrows 'for every input' (looked for: loops, veiled, ifaces, maps, wideKeys, modest, calm, conditions, laid).
  DERIVED. THE GIVEN ROWS OF THIS SEAT. 4 by the template 'for every input the law returns true; each argument reads behind the call as it read before'; 0 by the template 'total and deterministic' (their statements: YthibbellkcdodaaTotals.lean).
  GIVEN WITH THE SEED: the statements are not yours to turn. If you find one false, say at which input.
  Laid BY PROGRAM, IN A SANDBOX (cutbox-rows.mjs): the forced cells as the released guide's own fill.sh prints them over the translation fb3723fc842d2391… (all of the seat's roots in one cut). By AI agents, Wed Nov 11 2026. No macro, syntax, notation, axiom, sorry.
-/
import Derived.Test.YthibbellkcdodaaChecked
import GoSem.Claim
import GoSem.ClaimJoined
import GoSem.ClaimMapViews
import Derived.JoinedTies
import Derived.KernelRfl
namespace Go.Proofs.Ythibbellkcdodaa
/- THE CELL 'sum', in the pinned program and in every row, IS THE sha256 OF THE DUMP (.gsa) THAT YthibbellkcdodaaProg.lean LOADS. Nothing in Lean hashes anything: it is a label: what it is worth is what the hold of that sum in a sandbox is worth. -/
noncomputable def Try.pinned : Pinned := { name := "ythibbellkcdodaa", sum := "fb3723fc842d23919a10381a719d648003403462a2ab8ad66516634341d1c36c", checked := Try.checked }
namespace Rows
def none {H : Type} : Left H := { results := [], args := [] }

/-- 'ladinglaw30.RefuseTells': WHATEVER THE INPUT: true; the input reads as it did. -/
def refuseTellsSpec : ChangeSpec := { name := "refuseTells", fn := fun _ => fun
  | [d1, d2, d3, d4, d5] => { results := [.lit (.bool true)], args := [d1, d2, d3, d4, d5] }
  | _ => none }
def refuseTellsRow : OpenClaim := { program := "ythibbellkcdodaa", sum := "fb3723fc842d23919a10381a719d648003403462a2ab8ad66516634341d1c36c", func := "lading/ladinglaw30.RefuseTells", spec := "refuseTells", unfollowed := true, recurses := true, apart := false }
def RefuseTellsSaid : Prop := refuseTellsRow.holds Try.pinned (OpenSpec.ofChange refuseTellsSpec)

/-- ITS FALSE NEIGHBOUR: 'it returns false'. Refute it at one input. -/
def refuseTellsWrong : ChangeSpec := { name := "refuseTells", fn := fun _ => fun
  | [d1, d2, d3, d4, d5] => { results := [.lit (.bool false)], args := [d1, d2, d3, d4, d5] }
  | _ => none }
def RefuseTellsWrongFalsely : Prop := refuseTellsRow.holds Try.pinned (OpenSpec.ofChange refuseTellsWrong)

/-- 'ladinglaw30.RefuseLeast': WHATEVER THE INPUT: true; the input reads as it did. -/
def refuseLeastSpec : ChangeSpec := { name := "refuseLeast", fn := fun _ => fun
  | [d1, d2] => { results := [.lit (.bool true)], args := [d1, d2] }
  | _ => none }
def refuseLeastRow : OpenClaim := { program := "ythibbellkcdodaa", sum := "fb3723fc842d23919a10381a719d648003403462a2ab8ad66516634341d1c36c", func := "lading/ladinglaw30.RefuseLeast", spec := "refuseLeast", unfollowed := true, recurses := true, apart := false }
def RefuseLeastSaid : Prop := refuseLeastRow.holds Try.pinned (OpenSpec.ofChange refuseLeastSpec)

/-- ITS FALSE NEIGHBOUR: 'it returns false'. Refute it at one input. -/
def refuseLeastWrong : ChangeSpec := { name := "refuseLeast", fn := fun _ => fun
  | [d1, d2] => { results := [.lit (.bool false)], args := [d1, d2] }
  | _ => none }
def RefuseLeastWrongFalsely : Prop := refuseLeastRow.holds Try.pinned (OpenSpec.ofChange refuseLeastWrong)

/-- 'ladinglaw30.RefuseChecks': WHATEVER THE INPUT: true; the input reads as it did. -/
def refuseChecksSpec : ChangeSpec := { name := "refuseChecks", fn := fun _ => fun
  | [d1, d2, d3, d4, d5, d6] => { results := [.lit (.bool true)], args := [d1, d2, d3, d4, d5, d6] }
  | _ => none }
def refuseChecksRow : OpenClaim := { program := "ythibbellkcdodaa", sum := "fb3723fc842d23919a10381a719d648003403462a2ab8ad66516634341d1c36c", func := "lading/ladinglaw30.RefuseChecks", spec := "refuseChecks", unfollowed := true, recurses := true, apart := false }
def RefuseChecksSaid : Prop := refuseChecksRow.holds Try.pinned (OpenSpec.ofChange refuseChecksSpec)

/-- ITS FALSE NEIGHBOUR: 'it returns false'. Refute it at one input. -/
def refuseChecksWrong : ChangeSpec := { name := "refuseChecks", fn := fun _ => fun
  | [d1, d2, d3, d4, d5, d6] => { results := [.lit (.bool false)], args := [d1, d2, d3, d4, d5, d6] }
  | _ => none }
def RefuseChecksWrongFalsely : Prop := refuseChecksRow.holds Try.pinned (OpenSpec.ofChange refuseChecksWrong)

/-- 'ladinglaw30.RefuseBehind': WHATEVER THE INPUT: true; the input reads as it did. -/
def refuseBehindSpec : ChangeSpec := { name := "refuseBehind", fn := fun _ => fun
  | [d1, d2, d3] => { results := [.lit (.bool true)], args := [d1, d2, d3] }
  | _ => none }
def refuseBehindRow : OpenClaim := { program := "ythibbellkcdodaa", sum := "fb3723fc842d23919a10381a719d648003403462a2ab8ad66516634341d1c36c", func := "lading/ladinglaw30.RefuseBehind", spec := "refuseBehind", unfollowed := true, recurses := true, apart := false }
def RefuseBehindSaid : Prop := refuseBehindRow.holds Try.pinned (OpenSpec.ofChange refuseBehindSpec)

/-- ITS FALSE NEIGHBOUR: 'it returns false'. Refute it at one input. -/
def refuseBehindWrong : ChangeSpec := { name := "refuseBehind", fn := fun _ => fun
  | [d1, d2, d3] => { results := [.lit (.bool false)], args := [d1, d2, d3] }
  | _ => none }
def RefuseBehindWrongFalsely : Prop := refuseBehindRow.holds Try.pinned (OpenSpec.ofChange refuseBehindWrong)

/- THE SECOND FORM. 'bulk': how many values and letters a reading holds, each counted each time it is reached (what is shared counts as often as it is met; a slice's spare places count too). A statement '..UptoSaid' is the law's where the arguments, and the package variables that the reading takes, are together of bulk at most 1048576: NARROWER than '..Said'. Prove '..Said' where nothing that the law and all that it calls make is longer than what came in: it says more and counts as full. Else prove '..UptoSaid'. A law counts once. -/
mutual
def uptoBulk {H : Type} : DataW H → Nat
  | .lit (.string bytes) => bytes.length + 1
  | .lit _ => 1
  | .nil => 1
  | .ptr d => uptoBulk d + 1
  | .slice elems spare => uptoBulkAll elems + uptoBulkAll spare + 1
  | .agg parts => uptoBulkAll parts + 1
  | .iface _ d => uptoBulk d + 1
  | .map entries => uptoBulkEntries entries + 1
  | .held _ => 1
def uptoBulkAll {H : Type} : List (DataW H) → Nat
  | [] => 0
  | d :: r => uptoBulk d + uptoBulkAll r
def uptoBulkEntries {H : Type} : List (Lit × DataW H) → Nat
  | [] => 0
  | x :: r => uptoBulkEntry x + uptoBulkEntries r
def uptoBulkEntry {H : Type} : Lit × DataW H → Nat
  | (.string bytes, d) => bytes.length + uptoBulk d + 1
  | (_, d) => uptoBulk d + 1
 end
def uptoSmall : (H : Type) → List (DataW H) → Bool := fun _ ds => decide (uptoBulkAll ds ≤ 1048576)
def OpenSpec.upto (s : _root_.Go.ChangeSpec) : _root_.Go.OpenSpec := { _root_.Go.OpenSpec.ofChange s with cond := some uptoSmall }

/-- 'ladinglaw30.RefuseTells', WHERE WHAT IT READS IS OF BULK AT MOST 1048576: true; the input reads as it did. -/
def refuseTellsUptoRow : OpenClaim := { program := "ythibbellkcdodaa", sum := "fb3723fc842d23919a10381a719d648003403462a2ab8ad66516634341d1c36c", func := "lading/ladinglaw30.RefuseTells", spec := "refuseTells", unfollowed := true, recurses := true, apart := false, narrowed := true }
def RefuseTellsUptoSaid : Prop := refuseTellsUptoRow.holds Try.pinned (OpenSpec.upto refuseTellsSpec)

/-- 'ladinglaw30.RefuseLeast', WHERE WHAT IT READS IS OF BULK AT MOST 1048576: true; the input reads as it did. -/
def refuseLeastUptoRow : OpenClaim := { program := "ythibbellkcdodaa", sum := "fb3723fc842d23919a10381a719d648003403462a2ab8ad66516634341d1c36c", func := "lading/ladinglaw30.RefuseLeast", spec := "refuseLeast", unfollowed := true, recurses := true, apart := false, narrowed := true }
def RefuseLeastUptoSaid : Prop := refuseLeastUptoRow.holds Try.pinned (OpenSpec.upto refuseLeastSpec)

/-- 'ladinglaw30.RefuseChecks', WHERE WHAT IT READS IS OF BULK AT MOST 1048576: true; the input reads as it did. -/
def refuseChecksUptoRow : OpenClaim := { program := "ythibbellkcdodaa", sum := "fb3723fc842d23919a10381a719d648003403462a2ab8ad66516634341d1c36c", func := "lading/ladinglaw30.RefuseChecks", spec := "refuseChecks", unfollowed := true, recurses := true, apart := false, narrowed := true }
def RefuseChecksUptoSaid : Prop := refuseChecksUptoRow.holds Try.pinned (OpenSpec.upto refuseChecksSpec)

/-- 'ladinglaw30.RefuseBehind', WHERE WHAT IT READS IS OF BULK AT MOST 1048576: true; the input reads as it did. -/
def refuseBehindUptoRow : OpenClaim := { program := "ythibbellkcdodaa", sum := "fb3723fc842d23919a10381a719d648003403462a2ab8ad66516634341d1c36c", func := "lading/ladinglaw30.RefuseBehind", spec := "refuseBehind", unfollowed := true, recurses := true, apart := false, narrowed := true }
def RefuseBehindUptoSaid : Prop := refuseBehindUptoRow.holds Try.pinned (OpenSpec.upto refuseBehindSpec)

end Rows
end Go.Proofs.Ythibbellkcdodaa
