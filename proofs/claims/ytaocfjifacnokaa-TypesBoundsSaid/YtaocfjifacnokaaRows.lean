/-
  NARROWER THAN 'FOR EVERY INPUT', by the rows' own cells (each row's printed sentence says how): TypesBounds: loops · TypesNarrow: loops · TypesChecks: loops · TypesSpare: loops · TypesOrder: loops.
  DERIVED. THE GIVEN ROWS OF THIS SEAT. 5 by the template 'for every input the law returns true; each argument reads behind the call as it read before'; 0 by the template 'total and deterministic' (their statements: YtaocfjifacnokaaTotals.lean).
  GIVEN WITH THE SEED: the statements are not yours to turn. If you find one false, say at which input.
  Laid BY PROGRAM, IN A SANDBOX (cutbox-rows.mjs): the forced cells as the released guide's own fill.sh prints them over the translation 883a4f53dec32b8f… (all of the seat's roots in one cut). By AI agents, Wed Nov 11 2026. No macro, syntax, notation, axiom, sorry.
-/
import Derived.Test.YtaocfjifacnokaaChecked
import GoSem.Claim
import GoSem.ClaimJoined
import GoSem.ClaimMapViews
import Derived.JoinedTies
import Derived.KernelRfl
namespace Go.Proofs.Ytaocfjifacnokaa
/- THE CELL 'sum', in the pinned program and in every row, IS THE sha256 OF THE DUMP (.gsa) THAT YtaocfjifacnokaaProg.lean LOADS. Nothing in Lean hashes anything: it is a label: what it is worth is what the hold of that sum in a sandbox is worth. -/
noncomputable def Try.pinned : Pinned := { name := "ytaocfjifacnokaa", sum := "883a4f53dec32b8fdc21cf6fcb6004c9d69b71f33a0b80d8041c6bb924adac50", checked := Try.checked }
namespace Rows
def none {H : Type} : Left H := { results := [], args := [] }

/-- 'ladinglaw16.TypesBounds': WHATEVER THE INPUT: true; the input reads as it did. -/
def typesBoundsSpec : ChangeSpec := { name := "typesBounds", fn := fun _ => fun
  | [d1, d2, d3] => { results := [.lit (.bool true)], args := [d1, d2, d3] }
  | _ => none }
def typesBoundsRow : OpenClaim := { program := "ytaocfjifacnokaa", sum := "883a4f53dec32b8fdc21cf6fcb6004c9d69b71f33a0b80d8041c6bb924adac50", func := "lading/ladinglaw16.TypesBounds", spec := "typesBounds", inPlace := ["internal/bytealg.IndexByteString", "internal/bytealg.IndexString", "slices.overlaps[lading/api.Field]"], unfollowed := true, recurses := true, named := ["internal/bytealg.MaxLen"], loops := true, apart := false }
def TypesBoundsSaid : Prop := typesBoundsRow.holds Try.pinned (OpenSpec.ofChange typesBoundsSpec)

/-- ITS FALSE NEIGHBOUR: 'it returns false'. Refute it at one input. -/
def typesBoundsWrong : ChangeSpec := { name := "typesBounds", fn := fun _ => fun
  | [d1, d2, d3] => { results := [.lit (.bool false)], args := [d1, d2, d3] }
  | _ => none }
def TypesBoundsWrongFalsely : Prop := typesBoundsRow.holds Try.pinned (OpenSpec.ofChange typesBoundsWrong)

/-- 'ladinglaw16.TypesNarrow': WHATEVER THE INPUT: true; the input reads as it did. -/
def typesNarrowSpec : ChangeSpec := { name := "typesNarrow", fn := fun _ => fun
  | [d1, d2, d3, d4, d5] => { results := [.lit (.bool true)], args := [d1, d2, d3, d4, d5] }
  | _ => none }
def typesNarrowRow : OpenClaim := { program := "ytaocfjifacnokaa", sum := "883a4f53dec32b8fdc21cf6fcb6004c9d69b71f33a0b80d8041c6bb924adac50", func := "lading/ladinglaw16.TypesNarrow", spec := "typesNarrow", inPlace := ["internal/bytealg.IndexByteString", "internal/bytealg.IndexString", "slices.overlaps[lading/api.Field]"], unfollowed := true, recurses := true, named := ["internal/bytealg.MaxLen"], loops := true, apart := false }
def TypesNarrowSaid : Prop := typesNarrowRow.holds Try.pinned (OpenSpec.ofChange typesNarrowSpec)

/-- ITS FALSE NEIGHBOUR: 'it returns false'. Refute it at one input. -/
def typesNarrowWrong : ChangeSpec := { name := "typesNarrow", fn := fun _ => fun
  | [d1, d2, d3, d4, d5] => { results := [.lit (.bool false)], args := [d1, d2, d3, d4, d5] }
  | _ => none }
def TypesNarrowWrongFalsely : Prop := typesNarrowRow.holds Try.pinned (OpenSpec.ofChange typesNarrowWrong)

/-- 'ladinglaw16.TypesChecks': WHATEVER THE INPUT: true; the input reads as it did. -/
def typesChecksSpec : ChangeSpec := { name := "typesChecks", fn := fun _ => fun
  | [d1, d2] => { results := [.lit (.bool true)], args := [d1, d2] }
  | _ => none }
def typesChecksRow : OpenClaim := { program := "ytaocfjifacnokaa", sum := "883a4f53dec32b8fdc21cf6fcb6004c9d69b71f33a0b80d8041c6bb924adac50", func := "lading/ladinglaw16.TypesChecks", spec := "typesChecks", inPlace := ["internal/bytealg.IndexByteString", "internal/bytealg.IndexString", "slices.overlaps[lading/api.Field]"], unfollowed := true, recurses := true, named := ["internal/bytealg.MaxLen"], loops := true, apart := false }
def TypesChecksSaid : Prop := typesChecksRow.holds Try.pinned (OpenSpec.ofChange typesChecksSpec)

/-- ITS FALSE NEIGHBOUR: 'it returns false'. Refute it at one input. -/
def typesChecksWrong : ChangeSpec := { name := "typesChecks", fn := fun _ => fun
  | [d1, d2] => { results := [.lit (.bool false)], args := [d1, d2] }
  | _ => none }
def TypesChecksWrongFalsely : Prop := typesChecksRow.holds Try.pinned (OpenSpec.ofChange typesChecksWrong)

/-- 'ladinglaw16.TypesSpare': WHATEVER THE INPUT: true; the input reads as it did. -/
def typesSpareSpec : ChangeSpec := { name := "typesSpare", fn := fun _ => fun
  | [d1, d2, d3, d4, d5] => { results := [.lit (.bool true)], args := [d1, d2, d3, d4, d5] }
  | _ => none }
def typesSpareRow : OpenClaim := { program := "ytaocfjifacnokaa", sum := "883a4f53dec32b8fdc21cf6fcb6004c9d69b71f33a0b80d8041c6bb924adac50", func := "lading/ladinglaw16.TypesSpare", spec := "typesSpare", inPlace := ["internal/bytealg.IndexByteString", "internal/bytealg.IndexString", "slices.overlaps[lading/api.Field]"], unfollowed := true, recurses := true, named := ["internal/bytealg.MaxLen"], loops := true, apart := false }
def TypesSpareSaid : Prop := typesSpareRow.holds Try.pinned (OpenSpec.ofChange typesSpareSpec)

/-- ITS FALSE NEIGHBOUR: 'it returns false'. Refute it at one input. -/
def typesSpareWrong : ChangeSpec := { name := "typesSpare", fn := fun _ => fun
  | [d1, d2, d3, d4, d5] => { results := [.lit (.bool false)], args := [d1, d2, d3, d4, d5] }
  | _ => none }
def TypesSpareWrongFalsely : Prop := typesSpareRow.holds Try.pinned (OpenSpec.ofChange typesSpareWrong)

/-- 'ladinglaw16.TypesOrder': WHATEVER THE INPUT: true; the input reads as it did. -/
def typesOrderSpec : ChangeSpec := { name := "typesOrder", fn := fun _ => fun
  | [d1, d2, d3] => { results := [.lit (.bool true)], args := [d1, d2, d3] }
  | _ => none }
def typesOrderRow : OpenClaim := { program := "ytaocfjifacnokaa", sum := "883a4f53dec32b8fdc21cf6fcb6004c9d69b71f33a0b80d8041c6bb924adac50", func := "lading/ladinglaw16.TypesOrder", spec := "typesOrder", inPlace := ["internal/bytealg.IndexByteString", "internal/bytealg.IndexString", "slices.overlaps[lading/api.Field]"], unfollowed := true, recurses := true, named := ["internal/bytealg.MaxLen"], loops := true, apart := false }
def TypesOrderSaid : Prop := typesOrderRow.holds Try.pinned (OpenSpec.ofChange typesOrderSpec)

/-- ITS FALSE NEIGHBOUR: 'it returns false'. Refute it at one input. -/
def typesOrderWrong : ChangeSpec := { name := "typesOrder", fn := fun _ => fun
  | [d1, d2, d3] => { results := [.lit (.bool false)], args := [d1, d2, d3] }
  | _ => none }
def TypesOrderWrongFalsely : Prop := typesOrderRow.holds Try.pinned (OpenSpec.ofChange typesOrderWrong)

/- THE SECOND FORM. 'bulk': how many values and letters a reading holds, each counted each time it is reached (what is shared counts as often as it is met; a slice's spare places count too). A statement '..UptoSaid' is the law's where the arguments, and the package variables that the reading takes, are together of bulk at most 1048576: NARROWER than '..Said'. Prove '..Said' where nothing that the law and all that it calls make is longer than what came in: it says more and counts as full. Else prove '..UptoSaid'. A law counts once. -/
mutual
def uptoBulk {H : Type} : DataW H → Nat
  | .lit (.string bytes) => bytes.length + 1
  | .lit _ => 1
  | .nil => 1
  | .ptr d => uptoBulk d + 1
  | .slice elems spare => uptoBulkAll elems + uptoBulkAll spare + 1
  | .agg parts => uptoBulkAll parts + 1
  | .iface _ d => uptoBulk d + 1
  | .map entries => uptoBulkEntries entries + 1
  | .held _ => 1
def uptoBulkAll {H : Type} : List (DataW H) → Nat
  | [] => 0
  | d :: r => uptoBulk d + uptoBulkAll r
def uptoBulkEntries {H : Type} : List (Lit × DataW H) → Nat
  | [] => 0
  | x :: r => uptoBulkEntry x + uptoBulkEntries r
def uptoBulkEntry {H : Type} : Lit × DataW H → Nat
  | (.string bytes, d) => bytes.length + uptoBulk d + 1
  | (_, d) => uptoBulk d + 1
 end
def uptoSmall : (H : Type) → List (DataW H) → Bool := fun _ ds => decide (uptoBulkAll ds ≤ 1048576)
def OpenSpec.upto (s : _root_.Go.ChangeSpec) : _root_.Go.OpenSpec := { _root_.Go.OpenSpec.ofChange s with cond := some uptoSmall }

/-- 'ladinglaw16.TypesBounds', WHERE WHAT IT READS IS OF BULK AT MOST 1048576: true; the input reads as it did. -/
def typesBoundsUptoRow : OpenClaim := { program := "ytaocfjifacnokaa", sum := "883a4f53dec32b8fdc21cf6fcb6004c9d69b71f33a0b80d8041c6bb924adac50", func := "lading/ladinglaw16.TypesBounds", spec := "typesBounds", inPlace := ["internal/bytealg.IndexByteString", "internal/bytealg.IndexString", "slices.overlaps[lading/api.Field]"], unfollowed := true, recurses := true, named := ["internal/bytealg.MaxLen"], loops := true, apart := false, narrowed := true }
def TypesBoundsUptoSaid : Prop := typesBoundsUptoRow.holds Try.pinned (OpenSpec.upto typesBoundsSpec)

/-- 'ladinglaw16.TypesNarrow', WHERE WHAT IT READS IS OF BULK AT MOST 1048576: true; the input reads as it did. -/
def typesNarrowUptoRow : OpenClaim := { program := "ytaocfjifacnokaa", sum := "883a4f53dec32b8fdc21cf6fcb6004c9d69b71f33a0b80d8041c6bb924adac50", func := "lading/ladinglaw16.TypesNarrow", spec := "typesNarrow", inPlace := ["internal/bytealg.IndexByteString", "internal/bytealg.IndexString", "slices.overlaps[lading/api.Field]"], unfollowed := true, recurses := true, named := ["internal/bytealg.MaxLen"], loops := true, apart := false, narrowed := true }
def TypesNarrowUptoSaid : Prop := typesNarrowUptoRow.holds Try.pinned (OpenSpec.upto typesNarrowSpec)

/-- 'ladinglaw16.TypesChecks', WHERE WHAT IT READS IS OF BULK AT MOST 1048576: true; the input reads as it did. -/
def typesChecksUptoRow : OpenClaim := { program := "ytaocfjifacnokaa", sum := "883a4f53dec32b8fdc21cf6fcb6004c9d69b71f33a0b80d8041c6bb924adac50", func := "lading/ladinglaw16.TypesChecks", spec := "typesChecks", inPlace := ["internal/bytealg.IndexByteString", "internal/bytealg.IndexString", "slices.overlaps[lading/api.Field]"], unfollowed := true, recurses := true, named := ["internal/bytealg.MaxLen"], loops := true, apart := false, narrowed := true }
def TypesChecksUptoSaid : Prop := typesChecksUptoRow.holds Try.pinned (OpenSpec.upto typesChecksSpec)

/-- 'ladinglaw16.TypesSpare', WHERE WHAT IT READS IS OF BULK AT MOST 1048576: true; the input reads as it did. -/
def typesSpareUptoRow : OpenClaim := { program := "ytaocfjifacnokaa", sum := "883a4f53dec32b8fdc21cf6fcb6004c9d69b71f33a0b80d8041c6bb924adac50", func := "lading/ladinglaw16.TypesSpare", spec := "typesSpare", inPlace := ["internal/bytealg.IndexByteString", "internal/bytealg.IndexString", "slices.overlaps[lading/api.Field]"], unfollowed := true, recurses := true, named := ["internal/bytealg.MaxLen"], loops := true, apart := false, narrowed := true }
def TypesSpareUptoSaid : Prop := typesSpareUptoRow.holds Try.pinned (OpenSpec.upto typesSpareSpec)

/-- 'ladinglaw16.TypesOrder', WHERE WHAT IT READS IS OF BULK AT MOST 1048576: true; the input reads as it did. -/
def typesOrderUptoRow : OpenClaim := { program := "ytaocfjifacnokaa", sum := "883a4f53dec32b8fdc21cf6fcb6004c9d69b71f33a0b80d8041c6bb924adac50", func := "lading/ladinglaw16.TypesOrder", spec := "typesOrder", inPlace := ["internal/bytealg.IndexByteString", "internal/bytealg.IndexString", "slices.overlaps[lading/api.Field]"], unfollowed := true, recurses := true, named := ["internal/bytealg.MaxLen"], loops := true, apart := false, narrowed := true }
def TypesOrderUptoSaid : Prop := typesOrderUptoRow.holds Try.pinned (OpenSpec.upto typesOrderSpec)

end Rows
end Go.Proofs.Ytaocfjifacnokaa
