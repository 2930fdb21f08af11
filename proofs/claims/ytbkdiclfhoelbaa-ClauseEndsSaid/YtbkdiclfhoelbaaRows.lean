/-
  No cell of these rows narrows 'for every input' (looked for: loops, veiled, ifaces, maps, wideKeys, modest, calm, conditions, laid).
  DERIVED. THE GIVEN ROWS OF THIS SEAT. 5 by the template 'for every input the law returns true; each argument reads behind the call as it read before'; 0 by the template 'total and deterministic' (their statements: YtbkdiclfhoelbaaTotals.lean).
  GIVEN WITH THE SEED: the statements are not yours to turn. If you find one false, say at which input.
  Laid BY PROGRAM, IN A SANDBOX (cutbox-rows.mjs): the forced cells as the released guide's own fill.sh prints them over the translation 11f156b15c889c12… (all of the seat's roots in one cut). By AI agents, Wed Nov 11 2026. No macro, syntax, notation, axiom, sorry.
-/
import Derived.Test.YtbkdiclfhoelbaaChecked
import GoSem.Claim
import GoSem.ClaimJoined
import GoSem.ClaimMapViews
import Derived.JoinedTies
import Derived.KernelRfl
namespace Go.Proofs.Ytbkdiclfhoelbaa
/- THE CELL 'sum', in the pinned program and in every row, IS THE sha256 OF THE DUMP (.gsa) THAT YtbkdiclfhoelbaaProg.lean LOADS. Nothing in Lean hashes anything: it is a label: what it is worth is what the hold of that sum in a sandbox is worth. -/
noncomputable def Try.pinned : Pinned := { name := "ytbkdiclfhoelbaa", sum := "11f156b15c889c1245cfe0bf13f366417ea2a7ab167e934a8b90e5907d7d2462", checked := Try.checked }
namespace Rows
def none {H : Type} : Left H := { results := [], args := [] }

/-- 'ladinglaw26.ClauseTells': WHATEVER THE INPUT: true; the input reads as it did. -/
def clauseTellsSpec : ChangeSpec := { name := "clauseTells", fn := fun _ => fun
  | [d1, d2, d3, d4, d5] => { results := [.lit (.bool true)], args := [d1, d2, d3, d4, d5] }
  | _ => none }
def clauseTellsRow : OpenClaim := { program := "ytbkdiclfhoelbaa", sum := "11f156b15c889c1245cfe0bf13f366417ea2a7ab167e934a8b90e5907d7d2462", func := "lading/ladinglaw26.ClauseTells", spec := "clauseTells", unfollowed := true, recurses := true, apart := false }
def ClauseTellsSaid : Prop := clauseTellsRow.holds Try.pinned (OpenSpec.ofChange clauseTellsSpec)

/-- ITS FALSE NEIGHBOUR: 'it returns false'. Refute it at one input. -/
def clauseTellsWrong : ChangeSpec := { name := "clauseTells", fn := fun _ => fun
  | [d1, d2, d3, d4, d5] => { results := [.lit (.bool false)], args := [d1, d2, d3, d4, d5] }
  | _ => none }
def ClauseTellsWrongFalsely : Prop := clauseTellsRow.holds Try.pinned (OpenSpec.ofChange clauseTellsWrong)

/-- 'ladinglaw26.ClauseSound': WHATEVER THE INPUT: true; the input reads as it did. -/
def clauseSoundSpec : ChangeSpec := { name := "clauseSound", fn := fun _ => fun
  | [d1, d2, d3] => { results := [.lit (.bool true)], args := [d1, d2, d3] }
  | _ => none }
def clauseSoundRow : OpenClaim := { program := "ytbkdiclfhoelbaa", sum := "11f156b15c889c1245cfe0bf13f366417ea2a7ab167e934a8b90e5907d7d2462", func := "lading/ladinglaw26.ClauseSound", spec := "clauseSound", unfollowed := true, recurses := true, apart := false }
def ClauseSoundSaid : Prop := clauseSoundRow.holds Try.pinned (OpenSpec.ofChange clauseSoundSpec)

/-- ITS FALSE NEIGHBOUR: 'it returns false'. Refute it at one input. -/
def clauseSoundWrong : ChangeSpec := { name := "clauseSound", fn := fun _ => fun
  | [d1, d2, d3] => { results := [.lit (.bool false)], args := [d1, d2, d3] }
  | _ => none }
def ClauseSoundWrongFalsely : Prop := clauseSoundRow.holds Try.pinned (OpenSpec.ofChange clauseSoundWrong)

/-- 'ladinglaw26.ClausePropagates': WHATEVER THE INPUT: true; the input reads as it did. -/
def clausePropagatesSpec : ChangeSpec := { name := "clausePropagates", fn := fun _ => fun
  | [d1, d2, d3] => { results := [.lit (.bool true)], args := [d1, d2, d3] }
  | _ => none }
def clausePropagatesRow : OpenClaim := { program := "ytbkdiclfhoelbaa", sum := "11f156b15c889c1245cfe0bf13f366417ea2a7ab167e934a8b90e5907d7d2462", func := "lading/ladinglaw26.ClausePropagates", spec := "clausePropagates", unfollowed := true, recurses := true, apart := false }
def ClausePropagatesSaid : Prop := clausePropagatesRow.holds Try.pinned (OpenSpec.ofChange clausePropagatesSpec)

/-- ITS FALSE NEIGHBOUR: 'it returns false'. Refute it at one input. -/
def clausePropagatesWrong : ChangeSpec := { name := "clausePropagates", fn := fun _ => fun
  | [d1, d2, d3] => { results := [.lit (.bool false)], args := [d1, d2, d3] }
  | _ => none }
def ClausePropagatesWrongFalsely : Prop := clausePropagatesRow.holds Try.pinned (OpenSpec.ofChange clausePropagatesWrong)

/-- 'ladinglaw26.ClauseTurns': WHATEVER THE INPUT: true; the input reads as it did. -/
def clauseTurnsSpec : ChangeSpec := { name := "clauseTurns", fn := fun _ => fun
  | [d1, d2, d3, d4] => { results := [.lit (.bool true)], args := [d1, d2, d3, d4] }
  | _ => none }
def clauseTurnsRow : OpenClaim := { program := "ytbkdiclfhoelbaa", sum := "11f156b15c889c1245cfe0bf13f366417ea2a7ab167e934a8b90e5907d7d2462", func := "lading/ladinglaw26.ClauseTurns", spec := "clauseTurns", unfollowed := true, recurses := true, apart := false }
def ClauseTurnsSaid : Prop := clauseTurnsRow.holds Try.pinned (OpenSpec.ofChange clauseTurnsSpec)

/-- ITS FALSE NEIGHBOUR: 'it returns false'. Refute it at one input. -/
def clauseTurnsWrong : ChangeSpec := { name := "clauseTurns", fn := fun _ => fun
  | [d1, d2, d3, d4] => { results := [.lit (.bool false)], args := [d1, d2, d3, d4] }
  | _ => none }
def ClauseTurnsWrongFalsely : Prop := clauseTurnsRow.holds Try.pinned (OpenSpec.ofChange clauseTurnsWrong)

/-- 'ladinglaw26.ClauseEnds': WHATEVER THE INPUT: true; the input reads as it did. -/
def clauseEndsSpec : ChangeSpec := { name := "clauseEnds", fn := fun _ => fun
  | [d1, d2, d3] => { results := [.lit (.bool true)], args := [d1, d2, d3] }
  | _ => none }
def clauseEndsRow : OpenClaim := { program := "ytbkdiclfhoelbaa", sum := "11f156b15c889c1245cfe0bf13f366417ea2a7ab167e934a8b90e5907d7d2462", func := "lading/ladinglaw26.ClauseEnds", spec := "clauseEnds", unfollowed := true, recurses := true, apart := false }
def ClauseEndsSaid : Prop := clauseEndsRow.holds Try.pinned (OpenSpec.ofChange clauseEndsSpec)

/-- ITS FALSE NEIGHBOUR: 'it returns false'. Refute it at one input. -/
def clauseEndsWrong : ChangeSpec := { name := "clauseEnds", fn := fun _ => fun
  | [d1, d2, d3] => { results := [.lit (.bool false)], args := [d1, d2, d3] }
  | _ => none }
def ClauseEndsWrongFalsely : Prop := clauseEndsRow.holds Try.pinned (OpenSpec.ofChange clauseEndsWrong)

/- THE SECOND FORM. 'bulk': how many values and letters a reading holds, each counted each time it is reached (what is shared counts as often as it is met; a slice's spare places count too). A statement '..UptoSaid' is the law's where the arguments, and the package variables that the reading takes, are together of bulk at most 1048576: NARROWER than '..Said'. Prove '..Said' where nothing that the law and all that it calls make is longer than what came in: it says more and counts as full. Else prove '..UptoSaid'. A law counts once. -/
mutual
def uptoBulk {H : Type} : DataW H → Nat
  | .lit (.string bytes) => bytes.length + 1
  | .lit _ => 1
  | .nil => 1
  | .ptr d => uptoBulk d + 1
  | .slice elems spare => uptoBulkAll elems + uptoBulkAll spare + 1
  | .agg parts => uptoBulkAll parts + 1
  | .iface _ d => uptoBulk d + 1
  | .map entries => uptoBulkEntries entries + 1
  | .held _ => 1
def uptoBulkAll {H : Type} : List (DataW H) → Nat
  | [] => 0
  | d :: r => uptoBulk d + uptoBulkAll r
def uptoBulkEntries {H : Type} : List (Lit × DataW H) → Nat
  | [] => 0
  | x :: r => uptoBulkEntry x + uptoBulkEntries r
def uptoBulkEntry {H : Type} : Lit × DataW H → Nat
  | (.string bytes, d) => bytes.length + uptoBulk d + 1
  | (_, d) => uptoBulk d + 1
 end
def uptoSmall : (H : Type) → List (DataW H) → Bool := fun _ ds => decide (uptoBulkAll ds ≤ 1048576)
def OpenSpec.upto (s : _root_.Go.ChangeSpec) : _root_.Go.OpenSpec := { _root_.Go.OpenSpec.ofChange s with cond := some uptoSmall }

/-- 'ladinglaw26.ClauseTells', WHERE WHAT IT READS IS OF BULK AT MOST 1048576: true; the input reads as it did. -/
def clauseTellsUptoRow : OpenClaim := { program := "ytbkdiclfhoelbaa", sum := "11f156b15c889c1245cfe0bf13f366417ea2a7ab167e934a8b90e5907d7d2462", func := "lading/ladinglaw26.ClauseTells", spec := "clauseTells", unfollowed := true, recurses := true, apart := false, narrowed := true }
def ClauseTellsUptoSaid : Prop := clauseTellsUptoRow.holds Try.pinned (OpenSpec.upto clauseTellsSpec)

/-- 'ladinglaw26.ClauseSound', WHERE WHAT IT READS IS OF BULK AT MOST 1048576: true; the input reads as it did. -/
def clauseSoundUptoRow : OpenClaim := { program := "ytbkdiclfhoelbaa", sum := "11f156b15c889c1245cfe0bf13f366417ea2a7ab167e934a8b90e5907d7d2462", func := "lading/ladinglaw26.ClauseSound", spec := "clauseSound", unfollowed := true, recurses := true, apart := false, narrowed := true }
def ClauseSoundUptoSaid : Prop := clauseSoundUptoRow.holds Try.pinned (OpenSpec.upto clauseSoundSpec)

/-- 'ladinglaw26.ClausePropagates', WHERE WHAT IT READS IS OF BULK AT MOST 1048576: true; the input reads as it did. -/
def clausePropagatesUptoRow : OpenClaim := { program := "ytbkdiclfhoelbaa", sum := "11f156b15c889c1245cfe0bf13f366417ea2a7ab167e934a8b90e5907d7d2462", func := "lading/ladinglaw26.ClausePropagates", spec := "clausePropagates", unfollowed := true, recurses := true, apart := false, narrowed := true }
def ClausePropagatesUptoSaid : Prop := clausePropagatesUptoRow.holds Try.pinned (OpenSpec.upto clausePropagatesSpec)

/-- 'ladinglaw26.ClauseTurns', WHERE WHAT IT READS IS OF BULK AT MOST 1048576: true; the input reads as it did. -/
def clauseTurnsUptoRow : OpenClaim := { program := "ytbkdiclfhoelbaa", sum := "11f156b15c889c1245cfe0bf13f366417ea2a7ab167e934a8b90e5907d7d2462", func := "lading/ladinglaw26.ClauseTurns", spec := "clauseTurns", unfollowed := true, recurses := true, apart := false, narrowed := true }
def ClauseTurnsUptoSaid : Prop := clauseTurnsUptoRow.holds Try.pinned (OpenSpec.upto clauseTurnsSpec)

/-- 'ladinglaw26.ClauseEnds', WHERE WHAT IT READS IS OF BULK AT MOST 1048576: true; the input reads as it did. -/
def clauseEndsUptoRow : OpenClaim := { program := "ytbkdiclfhoelbaa", sum := "11f156b15c889c1245cfe0bf13f366417ea2a7ab167e934a8b90e5907d7d2462", func := "lading/ladinglaw26.ClauseEnds", spec := "clauseEnds", unfollowed := true, recurses := true, apart := false, narrowed := true }
def ClauseEndsUptoSaid : Prop := clauseEndsUptoRow.holds Try.pinned (OpenSpec.upto clauseEndsSpec)

end Rows
end Go.Proofs.Ytbkdiclfhoelbaa
