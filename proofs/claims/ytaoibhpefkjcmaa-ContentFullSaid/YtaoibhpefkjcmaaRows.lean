/-
  No cell of these rows narrows 'for every input' (looked for: loops, veiled, ifaces, maps, wideKeys, modest, calm, conditions, laid).
  DERIVED. THE GIVEN ROWS OF THIS SEAT. 5 by the template 'for every input the law returns true; each argument reads behind the call as it read before'; 0 by the template 'total and deterministic' (their statements: YtaoibhpefkjcmaaTotals.lean).
  GIVEN WITH THE SEED: the statements are not yours to turn. If you find one false, say at which input.
  Laid BY PROGRAM, IN A SANDBOX (cutbox-rows.mjs): the forced cells as the released guide's own fill.sh prints them over the translation 00bd1693b16f3335… (all of the seat's roots in one cut). By AI agents, Wed Nov 11 2026. No macro, syntax, notation, axiom, sorry.
-/
import Derived.Test.YtaoibhpefkjcmaaChecked
import GoSem.Claim
import GoSem.ClaimJoined
import GoSem.ClaimMapViews
import Derived.JoinedTies
import Derived.KernelRfl
namespace Go.Proofs.Ytaoibhpefkjcmaa
/- THE CELL 'sum', in the pinned program and in every row, IS THE sha256 OF THE DUMP (.gsa) THAT YtaoibhpefkjcmaaProg.lean LOADS. Nothing in Lean hashes anything: it is a label: what it is worth is what the hold of that sum in a sandbox is worth. -/
noncomputable def Try.pinned : Pinned := { name := "ytaoibhpefkjcmaa", sum := "00bd1693b16f33359110986396499412806c00fa6f2c754880ff7b96149947dd", checked := Try.checked }
namespace Rows
def none {H : Type} : Left H := { results := [], args := [] }

/-- 'ladinglaw04.ContentTells': WHATEVER THE INPUT: true; the input reads as it did. -/
def contentTellsSpec : ChangeSpec := { name := "contentTells", fn := fun _ => fun
  | [d1, d2, d3, d4] => { results := [.lit (.bool true)], args := [d1, d2, d3, d4] }
  | _ => none }
def contentTellsRow : OpenClaim := { program := "ytaoibhpefkjcmaa", sum := "00bd1693b16f33359110986396499412806c00fa6f2c754880ff7b96149947dd", func := "lading/ladinglaw04.ContentTells", spec := "contentTells", apart := false }
def ContentTellsSaid : Prop := contentTellsRow.holds Try.pinned (OpenSpec.ofChange contentTellsSpec)

/-- ITS FALSE NEIGHBOUR: 'it returns false'. Refute it at one input. -/
def contentTellsWrong : ChangeSpec := { name := "contentTells", fn := fun _ => fun
  | [d1, d2, d3, d4] => { results := [.lit (.bool false)], args := [d1, d2, d3, d4] }
  | _ => none }
def ContentTellsWrongFalsely : Prop := contentTellsRow.holds Try.pinned (OpenSpec.ofChange contentTellsWrong)

/-- 'ladinglaw04.ContentBack': WHATEVER THE INPUT: true; the input reads as it did. -/
def contentBackSpec : ChangeSpec := { name := "contentBack", fn := fun _ => fun
  | [d] => { results := [.lit (.bool true)], args := [d] }
  | _ => none }
def contentBackRow : OpenClaim := { program := "ytaoibhpefkjcmaa", sum := "00bd1693b16f33359110986396499412806c00fa6f2c754880ff7b96149947dd", func := "lading/ladinglaw04.ContentBack", spec := "contentBack", apart := false }
def ContentBackSaid : Prop := contentBackRow.holds Try.pinned (OpenSpec.ofChange contentBackSpec)

/-- ITS FALSE NEIGHBOUR: 'it returns false'. Refute it at one input. -/
def contentBackWrong : ChangeSpec := { name := "contentBack", fn := fun _ => fun
  | [d] => { results := [.lit (.bool false)], args := [d] }
  | _ => none }
def ContentBackWrongFalsely : Prop := contentBackRow.holds Try.pinned (OpenSpec.ofChange contentBackWrong)

/-- 'ladinglaw04.ContentPrints': WHATEVER THE INPUT: true; the input reads as it did. -/
def contentPrintsSpec : ChangeSpec := { name := "contentPrints", fn := fun _ => fun
  | [d1, d2, d3] => { results := [.lit (.bool true)], args := [d1, d2, d3] }
  | _ => none }
def contentPrintsRow : OpenClaim := { program := "ytaoibhpefkjcmaa", sum := "00bd1693b16f33359110986396499412806c00fa6f2c754880ff7b96149947dd", func := "lading/ladinglaw04.ContentPrints", spec := "contentPrints", apart := false }
def ContentPrintsSaid : Prop := contentPrintsRow.holds Try.pinned (OpenSpec.ofChange contentPrintsSpec)

/-- ITS FALSE NEIGHBOUR: 'it returns false'. Refute it at one input. -/
def contentPrintsWrong : ChangeSpec := { name := "contentPrints", fn := fun _ => fun
  | [d1, d2, d3] => { results := [.lit (.bool false)], args := [d1, d2, d3] }
  | _ => none }
def ContentPrintsWrongFalsely : Prop := contentPrintsRow.holds Try.pinned (OpenSpec.ofChange contentPrintsWrong)

/-- 'ladinglaw04.ContentJoins': WHATEVER THE INPUT: true; the input reads as it did. -/
def contentJoinsSpec : ChangeSpec := { name := "contentJoins", fn := fun _ => fun
  | [d1, d2] => { results := [.lit (.bool true)], args := [d1, d2] }
  | _ => none }
def contentJoinsRow : OpenClaim := { program := "ytaoibhpefkjcmaa", sum := "00bd1693b16f33359110986396499412806c00fa6f2c754880ff7b96149947dd", func := "lading/ladinglaw04.ContentJoins", spec := "contentJoins", apart := false }
def ContentJoinsSaid : Prop := contentJoinsRow.holds Try.pinned (OpenSpec.ofChange contentJoinsSpec)

/-- ITS FALSE NEIGHBOUR: 'it returns false'. Refute it at one input. -/
def contentJoinsWrong : ChangeSpec := { name := "contentJoins", fn := fun _ => fun
  | [d1, d2] => { results := [.lit (.bool false)], args := [d1, d2] }
  | _ => none }
def ContentJoinsWrongFalsely : Prop := contentJoinsRow.holds Try.pinned (OpenSpec.ofChange contentJoinsWrong)

/-- 'ladinglaw04.ContentFull': WHATEVER THE INPUT: true; the input reads as it did. -/
def contentFullSpec : ChangeSpec := { name := "contentFull", fn := fun _ => fun
  | [d1, d2] => { results := [.lit (.bool true)], args := [d1, d2] }
  | _ => none }
def contentFullRow : OpenClaim := { program := "ytaoibhpefkjcmaa", sum := "00bd1693b16f33359110986396499412806c00fa6f2c754880ff7b96149947dd", func := "lading/ladinglaw04.ContentFull", spec := "contentFull", apart := false }
def ContentFullSaid : Prop := contentFullRow.holds Try.pinned (OpenSpec.ofChange contentFullSpec)

/-- ITS FALSE NEIGHBOUR: 'it returns false'. Refute it at one input. -/
def contentFullWrong : ChangeSpec := { name := "contentFull", fn := fun _ => fun
  | [d1, d2] => { results := [.lit (.bool false)], args := [d1, d2] }
  | _ => none }
def ContentFullWrongFalsely : Prop := contentFullRow.holds Try.pinned (OpenSpec.ofChange contentFullWrong)

/- THE SECOND FORM. 'bulk': how many values and letters a reading holds, each counted each time it is reached (what is shared counts as often as it is met; a slice's spare places count too). A statement '..UptoSaid' is the law's where the arguments, and the package variables that the reading takes, are together of bulk at most 1048576: NARROWER than '..Said'. Prove '..Said' where nothing that the law and all that it calls make is longer than what came in: it says more and counts as full. Else prove '..UptoSaid'. A law counts once. -/
mutual
def uptoBulk {H : Type} : DataW H → Nat
  | .lit (.string bytes) => bytes.length + 1
  | .lit _ => 1
  | .nil => 1
  | .ptr d => uptoBulk d + 1
  | .slice elems spare => uptoBulkAll elems + uptoBulkAll spare + 1
  | .agg parts => uptoBulkAll parts + 1
  | .iface _ d => uptoBulk d + 1
  | .map entries => uptoBulkEntries entries + 1
  | .held _ => 1
def uptoBulkAll {H : Type} : List (DataW H) → Nat
  | [] => 0
  | d :: r => uptoBulk d + uptoBulkAll r
def uptoBulkEntries {H : Type} : List (Lit × DataW H) → Nat
  | [] => 0
  | x :: r => uptoBulkEntry x + uptoBulkEntries r
def uptoBulkEntry {H : Type} : Lit × DataW H → Nat
  | (.string bytes, d) => bytes.length + uptoBulk d + 1
  | (_, d) => uptoBulk d + 1
 end
def uptoSmall : (H : Type) → List (DataW H) → Bool := fun _ ds => decide (uptoBulkAll ds ≤ 1048576)
def OpenSpec.upto (s : _root_.Go.ChangeSpec) : _root_.Go.OpenSpec := { _root_.Go.OpenSpec.ofChange s with cond := some uptoSmall }

/-- 'ladinglaw04.ContentTells', WHERE WHAT IT READS IS OF BULK AT MOST 1048576: true; the input reads as it did. -/
def contentTellsUptoRow : OpenClaim := { program := "ytaoibhpefkjcmaa", sum := "00bd1693b16f33359110986396499412806c00fa6f2c754880ff7b96149947dd", func := "lading/ladinglaw04.ContentTells", spec := "contentTells", apart := false, narrowed := true }
def ContentTellsUptoSaid : Prop := contentTellsUptoRow.holds Try.pinned (OpenSpec.upto contentTellsSpec)

/-- 'ladinglaw04.ContentBack', WHERE WHAT IT READS IS OF BULK AT MOST 1048576: true; the input reads as it did. -/
def contentBackUptoRow : OpenClaim := { program := "ytaoibhpefkjcmaa", sum := "00bd1693b16f33359110986396499412806c00fa6f2c754880ff7b96149947dd", func := "lading/ladinglaw04.ContentBack", spec := "contentBack", apart := false, narrowed := true }
def ContentBackUptoSaid : Prop := contentBackUptoRow.holds Try.pinned (OpenSpec.upto contentBackSpec)

/-- 'ladinglaw04.ContentPrints', WHERE WHAT IT READS IS OF BULK AT MOST 1048576: true; the input reads as it did. -/
def contentPrintsUptoRow : OpenClaim := { program := "ytaoibhpefkjcmaa", sum := "00bd1693b16f33359110986396499412806c00fa6f2c754880ff7b96149947dd", func := "lading/ladinglaw04.ContentPrints", spec := "contentPrints", apart := false, narrowed := true }
def ContentPrintsUptoSaid : Prop := contentPrintsUptoRow.holds Try.pinned (OpenSpec.upto contentPrintsSpec)

/-- 'ladinglaw04.ContentJoins', WHERE WHAT IT READS IS OF BULK AT MOST 1048576: true; the input reads as it did. -/
def contentJoinsUptoRow : OpenClaim := { program := "ytaoibhpefkjcmaa", sum := "00bd1693b16f33359110986396499412806c00fa6f2c754880ff7b96149947dd", func := "lading/ladinglaw04.ContentJoins", spec := "contentJoins", apart := false, narrowed := true }
def ContentJoinsUptoSaid : Prop := contentJoinsUptoRow.holds Try.pinned (OpenSpec.upto contentJoinsSpec)

/-- 'ladinglaw04.ContentFull', WHERE WHAT IT READS IS OF BULK AT MOST 1048576: true; the input reads as it did. -/
def contentFullUptoRow : OpenClaim := { program := "ytaoibhpefkjcmaa", sum := "00bd1693b16f33359110986396499412806c00fa6f2c754880ff7b96149947dd", func := "lading/ladinglaw04.ContentFull", spec := "contentFull", apart := false, narrowed := true }
def ContentFullUptoSaid : Prop := contentFullUptoRow.holds Try.pinned (OpenSpec.upto contentFullSpec)

end Rows
end Go.Proofs.Ytaoibhpefkjcmaa
