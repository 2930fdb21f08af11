/-
  No cell of these rows narrows 'for every input' (looked for: loops, veiled, ifaces, maps, wideKeys, modest, calm, conditions, laid).
  DERIVED. THE GIVEN ROWS OF THIS SEAT. 5 by the template 'for every input the law returns true; each argument reads behind the call as it read before'; 0 by the template 'total and deterministic' (their statements: YtecegoknbcmenaaTotals.lean).
  GIVEN WITH THE SEED: the statements are not yours to turn. If you find one false, say at which input.
  Laid BY PROGRAM, IN A SANDBOX (cutbox-rows.mjs): the forced cells as the released guide's own fill.sh prints them over the translation 972a780e1174ae29… (all of the seat's roots in one cut). By AI agents, Wed Nov 11 2026. No macro, syntax, notation, axiom, sorry.
-/
import Derived.Test.YtecegoknbcmenaaChecked
import GoSem.Claim
import GoSem.ClaimJoined
import GoSem.ClaimMapViews
import Derived.JoinedTies
import Derived.KernelRfl
namespace Go.Proofs.Ytecegoknbcmenaa
/- THE CELL 'sum', in the pinned program and in every row, IS THE sha256 OF THE DUMP (.gsa) THAT YtecegoknbcmenaaProg.lean LOADS. Nothing in Lean hashes anything: it is a label: what it is worth is what the hold of that sum in a sandbox is worth. -/
noncomputable def Try.pinned : Pinned := { name := "ytecegoknbcmenaa", sum := "972a780e1174ae299a076b7b521262185b711e34a7429caa6fd320e1fb7c4154", checked := Try.checked }
namespace Rows
def none {H : Type} : Left H := { results := [], args := [] }

/-- 'ladinglaw27.SolveTells': WHATEVER THE INPUT: true; the input reads as it did. -/
def solveTellsSpec : ChangeSpec := { name := "solveTells", fn := fun _ => fun
  | [d1, d2, d3] => { results := [.lit (.bool true)], args := [d1, d2, d3] }
  | _ => none }
def solveTellsRow : OpenClaim := { program := "ytecegoknbcmenaa", sum := "972a780e1174ae299a076b7b521262185b711e34a7429caa6fd320e1fb7c4154", func := "lading/ladinglaw27.SolveTells", spec := "solveTells", unfollowed := true, recurses := true, apart := false }
def SolveTellsSaid : Prop := solveTellsRow.holds Try.pinned (OpenSpec.ofChange solveTellsSpec)

/-- ITS FALSE NEIGHBOUR: 'it returns false'. Refute it at one input. -/
def solveTellsWrong : ChangeSpec := { name := "solveTells", fn := fun _ => fun
  | [d1, d2, d3] => { results := [.lit (.bool false)], args := [d1, d2, d3] }
  | _ => none }
def SolveTellsWrongFalsely : Prop := solveTellsRow.holds Try.pinned (OpenSpec.ofChange solveTellsWrong)

/-- 'ladinglaw27.SolveOrder': WHATEVER THE INPUT: true; the input reads as it did. -/
def solveOrderSpec : ChangeSpec := { name := "solveOrder", fn := fun _ => fun
  | [d1, d2, d3, d4] => { results := [.lit (.bool true)], args := [d1, d2, d3, d4] }
  | _ => none }
def solveOrderRow : OpenClaim := { program := "ytecegoknbcmenaa", sum := "972a780e1174ae299a076b7b521262185b711e34a7429caa6fd320e1fb7c4154", func := "lading/ladinglaw27.SolveOrder", spec := "solveOrder", unfollowed := true, recurses := true, apart := false }
def SolveOrderSaid : Prop := solveOrderRow.holds Try.pinned (OpenSpec.ofChange solveOrderSpec)

/-- ITS FALSE NEIGHBOUR: 'it returns false'. Refute it at one input. -/
def solveOrderWrong : ChangeSpec := { name := "solveOrder", fn := fun _ => fun
  | [d1, d2, d3, d4] => { results := [.lit (.bool false)], args := [d1, d2, d3, d4] }
  | _ => none }
def SolveOrderWrongFalsely : Prop := solveOrderRow.holds Try.pinned (OpenSpec.ofChange solveOrderWrong)

/-- 'ladinglaw27.SolveMore': WHATEVER THE INPUT: true; the input reads as it did. -/
def solveMoreSpec : ChangeSpec := { name := "solveMore", fn := fun _ => fun
  | [d1, d2, d3, d4] => { results := [.lit (.bool true)], args := [d1, d2, d3, d4] }
  | _ => none }
def solveMoreRow : OpenClaim := { program := "ytecegoknbcmenaa", sum := "972a780e1174ae299a076b7b521262185b711e34a7429caa6fd320e1fb7c4154", func := "lading/ladinglaw27.SolveMore", spec := "solveMore", unfollowed := true, recurses := true, apart := false }
def SolveMoreSaid : Prop := solveMoreRow.holds Try.pinned (OpenSpec.ofChange solveMoreSpec)

/-- ITS FALSE NEIGHBOUR: 'it returns false'. Refute it at one input. -/
def solveMoreWrong : ChangeSpec := { name := "solveMore", fn := fun _ => fun
  | [d1, d2, d3, d4] => { results := [.lit (.bool false)], args := [d1, d2, d3, d4] }
  | _ => none }
def SolveMoreWrongFalsely : Prop := solveMoreRow.holds Try.pinned (OpenSpec.ofChange solveMoreWrong)

/-- 'ladinglaw27.SolveDecides': WHATEVER THE INPUT: true; the input reads as it did. -/
def solveDecidesSpec : ChangeSpec := { name := "solveDecides", fn := fun _ => fun
  | [d1, d2, d3] => { results := [.lit (.bool true)], args := [d1, d2, d3] }
  | _ => none }
def solveDecidesRow : OpenClaim := { program := "ytecegoknbcmenaa", sum := "972a780e1174ae299a076b7b521262185b711e34a7429caa6fd320e1fb7c4154", func := "lading/ladinglaw27.SolveDecides", spec := "solveDecides", unfollowed := true, recurses := true, apart := false }
def SolveDecidesSaid : Prop := solveDecidesRow.holds Try.pinned (OpenSpec.ofChange solveDecidesSpec)

/-- ITS FALSE NEIGHBOUR: 'it returns false'. Refute it at one input. -/
def solveDecidesWrong : ChangeSpec := { name := "solveDecides", fn := fun _ => fun
  | [d1, d2, d3] => { results := [.lit (.bool false)], args := [d1, d2, d3] }
  | _ => none }
def SolveDecidesWrongFalsely : Prop := solveDecidesRow.holds Try.pinned (OpenSpec.ofChange solveDecidesWrong)

/-- 'ladinglaw27.SolveProves': WHATEVER THE INPUT: true; the input reads as it did. -/
def solveProvesSpec : ChangeSpec := { name := "solveProves", fn := fun _ => fun
  | [d1, d2, d3] => { results := [.lit (.bool true)], args := [d1, d2, d3] }
  | _ => none }
def solveProvesRow : OpenClaim := { program := "ytecegoknbcmenaa", sum := "972a780e1174ae299a076b7b521262185b711e34a7429caa6fd320e1fb7c4154", func := "lading/ladinglaw27.SolveProves", spec := "solveProves", unfollowed := true, recurses := true, apart := false }
def SolveProvesSaid : Prop := solveProvesRow.holds Try.pinned (OpenSpec.ofChange solveProvesSpec)

/-- ITS FALSE NEIGHBOUR: 'it returns false'. Refute it at one input. -/
def solveProvesWrong : ChangeSpec := { name := "solveProves", fn := fun _ => fun
  | [d1, d2, d3] => { results := [.lit (.bool false)], args := [d1, d2, d3] }
  | _ => none }
def SolveProvesWrongFalsely : Prop := solveProvesRow.holds Try.pinned (OpenSpec.ofChange solveProvesWrong)

/- THE SECOND FORM. 'bulk': how many values and letters a reading holds, each counted each time it is reached (what is shared counts as often as it is met; a slice's spare places count too). A statement '..UptoSaid' is the law's where the arguments, and the package variables that the reading takes, are together of bulk at most 1048576: NARROWER than '..Said'. Prove '..Said' where nothing that the law and all that it calls make is longer than what came in: it says more and counts as full. Else prove '..UptoSaid'. A law counts once. -/
mutual
def uptoBulk {H : Type} : DataW H → Nat
  | .lit (.string bytes) => bytes.length + 1
  | .lit _ => 1
  | .nil => 1
  | .ptr d => uptoBulk d + 1
  | .slice elems spare => uptoBulkAll elems + uptoBulkAll spare + 1
  | .agg parts => uptoBulkAll parts + 1
  | .iface _ d => uptoBulk d + 1
  | .map entries => uptoBulkEntries entries + 1
  | .held _ => 1
def uptoBulkAll {H : Type} : List (DataW H) → Nat
  | [] => 0
  | d :: r => uptoBulk d + uptoBulkAll r
def uptoBulkEntries {H : Type} : List (Lit × DataW H) → Nat
  | [] => 0
  | x :: r => uptoBulkEntry x + uptoBulkEntries r
def uptoBulkEntry {H : Type} : Lit × DataW H → Nat
  | (.string bytes, d) => bytes.length + uptoBulk d + 1
  | (_, d) => uptoBulk d + 1
 end
def uptoSmall : (H : Type) → List (DataW H) → Bool := fun _ ds => decide (uptoBulkAll ds ≤ 1048576)
def OpenSpec.upto (s : _root_.Go.ChangeSpec) : _root_.Go.OpenSpec := { _root_.Go.OpenSpec.ofChange s with cond := some uptoSmall }

/-- 'ladinglaw27.SolveTells', WHERE WHAT IT READS IS OF BULK AT MOST 1048576: true; the input reads as it did. -/
def solveTellsUptoRow : OpenClaim := { program := "ytecegoknbcmenaa", sum := "972a780e1174ae299a076b7b521262185b711e34a7429caa6fd320e1fb7c4154", func := "lading/ladinglaw27.SolveTells", spec := "solveTells", unfollowed := true, recurses := true, apart := false, narrowed := true }
def SolveTellsUptoSaid : Prop := solveTellsUptoRow.holds Try.pinned (OpenSpec.upto solveTellsSpec)

/-- 'ladinglaw27.SolveOrder', WHERE WHAT IT READS IS OF BULK AT MOST 1048576: true; the input reads as it did. -/
def solveOrderUptoRow : OpenClaim := { program := "ytecegoknbcmenaa", sum := "972a780e1174ae299a076b7b521262185b711e34a7429caa6fd320e1fb7c4154", func := "lading/ladinglaw27.SolveOrder", spec := "solveOrder", unfollowed := true, recurses := true, apart := false, narrowed := true }
def SolveOrderUptoSaid : Prop := solveOrderUptoRow.holds Try.pinned (OpenSpec.upto solveOrderSpec)

/-- 'ladinglaw27.SolveMore', WHERE WHAT IT READS IS OF BULK AT MOST 1048576: true; the input reads as it did. -/
def solveMoreUptoRow : OpenClaim := { program := "ytecegoknbcmenaa", sum := "972a780e1174ae299a076b7b521262185b711e34a7429caa6fd320e1fb7c4154", func := "lading/ladinglaw27.SolveMore", spec := "solveMore", unfollowed := true, recurses := true, apart := false, narrowed := true }
def SolveMoreUptoSaid : Prop := solveMoreUptoRow.holds Try.pinned (OpenSpec.upto solveMoreSpec)

/-- 'ladinglaw27.SolveDecides', WHERE WHAT IT READS IS OF BULK AT MOST 1048576: true; the input reads as it did. -/
def solveDecidesUptoRow : OpenClaim := { program := "ytecegoknbcmenaa", sum := "972a780e1174ae299a076b7b521262185b711e34a7429caa6fd320e1fb7c4154", func := "lading/ladinglaw27.SolveDecides", spec := "solveDecides", unfollowed := true, recurses := true, apart := false, narrowed := true }
def SolveDecidesUptoSaid : Prop := solveDecidesUptoRow.holds Try.pinned (OpenSpec.upto solveDecidesSpec)

/-- 'ladinglaw27.SolveProves', WHERE WHAT IT READS IS OF BULK AT MOST 1048576: true; the input reads as it did. -/
def solveProvesUptoRow : OpenClaim := { program := "ytecegoknbcmenaa", sum := "972a780e1174ae299a076b7b521262185b711e34a7429caa6fd320e1fb7c4154", func := "lading/ladinglaw27.SolveProves", spec := "solveProves", unfollowed := true, recurses := true, apart := false, narrowed := true }
def SolveProvesUptoSaid : Prop := solveProvesUptoRow.holds Try.pinned (OpenSpec.upto solveProvesSpec)

end Rows
end Go.Proofs.Ytecegoknbcmenaa
