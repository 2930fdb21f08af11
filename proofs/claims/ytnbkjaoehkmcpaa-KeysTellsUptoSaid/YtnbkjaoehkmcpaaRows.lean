/-
  NARROWER THAN 'FOR EVERY INPUT', by the rows' own cells (each row's printed sentence says how): KeysHolds: loops · KeysMay: loops · KeysDelegate: loops · KeysTells: loops · KeysChain: loops.
  DERIVED. THE GIVEN ROWS OF THIS SEAT. 5 by the template 'for every input the law returns true; each argument reads behind the call as it read before'; 0 by the template 'total and deterministic' (their statements: YtnbkjaoehkmcpaaTotals.lean).
  GIVEN WITH THE SEED: the statements are not yours to turn. If you find one false, say at which input.
  Laid BY PROGRAM, IN A SANDBOX (cutbox-rows.mjs): the forced cells as the released guide's own fill.sh prints them over the translation a5056420aab21050… (all of the seat's roots in one cut). By AI agents, Wed Nov 11 2026. No macro, syntax, notation, axiom, sorry.
-/
import Derived.Test.YtnbkjaoehkmcpaaChecked
import GoSem.Claim
import GoSem.ClaimJoined
import GoSem.ClaimMapViews
import Derived.JoinedTies
import Derived.KernelRfl
namespace Go.Proofs.Ytnbkjaoehkmcpaa
/- THE CELL 'sum', in the pinned program and in every row, IS THE sha256 OF THE DUMP (.gsa) THAT YtnbkjaoehkmcpaaProg.lean LOADS. Nothing in Lean hashes anything: it is a label: what it is worth is what the hold of that sum in a sandbox is worth. -/
noncomputable def Try.pinned : Pinned := { name := "ytnbkjaoehkmcpaa", sum := "a5056420aab210501756cc391246a7cd969a72e8034afc81e7a697ec408495ad", checked := Try.checked }
namespace Rows
def none {H : Type} : Left H := { results := [], args := [] }

/-- 'ladinglaw11.KeysHolds': WHATEVER THE INPUT: true; the input reads as it did. -/
def keysHoldsSpec : ChangeSpec := { name := "keysHolds", fn := fun _ => fun
  | [d1, d2, d3, d4, d5, d6] => { results := [.lit (.bool true)], args := [d1, d2, d3, d4, d5, d6] }
  | _ => none }
def keysHoldsRow : OpenClaim := { program := "ytnbkjaoehkmcpaa", sum := "a5056420aab210501756cc391246a7cd969a72e8034afc81e7a697ec408495ad", func := "lading/ladinglaw11.KeysHolds", spec := "keysHolds", unfollowed := true, recurses := true, loops := true, apart := false }
def KeysHoldsSaid : Prop := keysHoldsRow.holds Try.pinned (OpenSpec.ofChange keysHoldsSpec)

/-- ITS FALSE NEIGHBOUR: 'it returns false'. Refute it at one input. -/
def keysHoldsWrong : ChangeSpec := { name := "keysHolds", fn := fun _ => fun
  | [d1, d2, d3, d4, d5, d6] => { results := [.lit (.bool false)], args := [d1, d2, d3, d4, d5, d6] }
  | _ => none }
def KeysHoldsWrongFalsely : Prop := keysHoldsRow.holds Try.pinned (OpenSpec.ofChange keysHoldsWrong)

/-- 'ladinglaw11.KeysMay': WHATEVER THE INPUT: true; the input reads as it did. -/
def keysMaySpec : ChangeSpec := { name := "keysMay", fn := fun _ => fun
  | [d1, d2, d3, d4, d5] => { results := [.lit (.bool true)], args := [d1, d2, d3, d4, d5] }
  | _ => none }
def keysMayRow : OpenClaim := { program := "ytnbkjaoehkmcpaa", sum := "a5056420aab210501756cc391246a7cd969a72e8034afc81e7a697ec408495ad", func := "lading/ladinglaw11.KeysMay", spec := "keysMay", unfollowed := true, recurses := true, loops := true, apart := false }
def KeysMaySaid : Prop := keysMayRow.holds Try.pinned (OpenSpec.ofChange keysMaySpec)

/-- ITS FALSE NEIGHBOUR: 'it returns false'. Refute it at one input. -/
def keysMayWrong : ChangeSpec := { name := "keysMay", fn := fun _ => fun
  | [d1, d2, d3, d4, d5] => { results := [.lit (.bool false)], args := [d1, d2, d3, d4, d5] }
  | _ => none }
def KeysMayWrongFalsely : Prop := keysMayRow.holds Try.pinned (OpenSpec.ofChange keysMayWrong)

/-- 'ladinglaw11.KeysDelegate': WHATEVER THE INPUT: true; the input reads as it did. -/
def keysDelegateSpec : ChangeSpec := { name := "keysDelegate", fn := fun _ => fun
  | [d1, d2, d3, d4] => { results := [.lit (.bool true)], args := [d1, d2, d3, d4] }
  | _ => none }
def keysDelegateRow : OpenClaim := { program := "ytnbkjaoehkmcpaa", sum := "a5056420aab210501756cc391246a7cd969a72e8034afc81e7a697ec408495ad", func := "lading/ladinglaw11.KeysDelegate", spec := "keysDelegate", unfollowed := true, recurses := true, loops := true, apart := false }
def KeysDelegateSaid : Prop := keysDelegateRow.holds Try.pinned (OpenSpec.ofChange keysDelegateSpec)

/-- ITS FALSE NEIGHBOUR: 'it returns false'. Refute it at one input. -/
def keysDelegateWrong : ChangeSpec := { name := "keysDelegate", fn := fun _ => fun
  | [d1, d2, d3, d4] => { results := [.lit (.bool false)], args := [d1, d2, d3, d4] }
  | _ => none }
def KeysDelegateWrongFalsely : Prop := keysDelegateRow.holds Try.pinned (OpenSpec.ofChange keysDelegateWrong)

/-- 'ladinglaw11.KeysTells': WHATEVER THE INPUT: true; the input reads as it did. -/
def keysTellsSpec : ChangeSpec := { name := "keysTells", fn := fun _ => fun
  | [d1, d2, d3, d4, d5, d6, d7] => { results := [.lit (.bool true)], args := [d1, d2, d3, d4, d5, d6, d7] }
  | _ => none }
def keysTellsRow : OpenClaim := { program := "ytnbkjaoehkmcpaa", sum := "a5056420aab210501756cc391246a7cd969a72e8034afc81e7a697ec408495ad", func := "lading/ladinglaw11.KeysTells", spec := "keysTells", unfollowed := true, recurses := true, loops := true, apart := false }
def KeysTellsSaid : Prop := keysTellsRow.holds Try.pinned (OpenSpec.ofChange keysTellsSpec)

/-- ITS FALSE NEIGHBOUR: 'it returns false'. Refute it at one input. -/
def keysTellsWrong : ChangeSpec := { name := "keysTells", fn := fun _ => fun
  | [d1, d2, d3, d4, d5, d6, d7] => { results := [.lit (.bool false)], args := [d1, d2, d3, d4, d5, d6, d7] }
  | _ => none }
def KeysTellsWrongFalsely : Prop := keysTellsRow.holds Try.pinned (OpenSpec.ofChange keysTellsWrong)

/-- 'ladinglaw11.KeysChain': WHATEVER THE INPUT: true; the input reads as it did. -/
def keysChainSpec : ChangeSpec := { name := "keysChain", fn := fun _ => fun
  | [d1, d2, d3] => { results := [.lit (.bool true)], args := [d1, d2, d3] }
  | _ => none }
def keysChainRow : OpenClaim := { program := "ytnbkjaoehkmcpaa", sum := "a5056420aab210501756cc391246a7cd969a72e8034afc81e7a697ec408495ad", func := "lading/ladinglaw11.KeysChain", spec := "keysChain", unfollowed := true, recurses := true, loops := true, apart := false }
def KeysChainSaid : Prop := keysChainRow.holds Try.pinned (OpenSpec.ofChange keysChainSpec)

/-- ITS FALSE NEIGHBOUR: 'it returns false'. Refute it at one input. -/
def keysChainWrong : ChangeSpec := { name := "keysChain", fn := fun _ => fun
  | [d1, d2, d3] => { results := [.lit (.bool false)], args := [d1, d2, d3] }
  | _ => none }
def KeysChainWrongFalsely : Prop := keysChainRow.holds Try.pinned (OpenSpec.ofChange keysChainWrong)

/- THE SECOND FORM. 'bulk': how many values and letters a reading holds, each counted each time it is reached (what is shared counts as often as it is met; a slice's spare places count too). A statement '..UptoSaid' is the law's where the arguments, and the package variables that the reading takes, are together of bulk at most 1048576: NARROWER than '..Said'. Prove '..Said' where nothing that the law and all that it calls make is longer than what came in: it says more and counts as full. Else prove '..UptoSaid'. A law counts once. -/
mutual
def uptoBulk {H : Type} : DataW H → Nat
  | .lit (.string bytes) => bytes.length + 1
  | .lit _ => 1
  | .nil => 1
  | .ptr d => uptoBulk d + 1
  | .slice elems spare => uptoBulkAll elems + uptoBulkAll spare + 1
  | .agg parts => uptoBulkAll parts + 1
  | .iface _ d => uptoBulk d + 1
  | .map entries => uptoBulkEntries entries + 1
  | .held _ => 1
def uptoBulkAll {H : Type} : List (DataW H) → Nat
  | [] => 0
  | d :: r => uptoBulk d + uptoBulkAll r
def uptoBulkEntries {H : Type} : List (Lit × DataW H) → Nat
  | [] => 0
  | x :: r => uptoBulkEntry x + uptoBulkEntries r
def uptoBulkEntry {H : Type} : Lit × DataW H → Nat
  | (.string bytes, d) => bytes.length + uptoBulk d + 1
  | (_, d) => uptoBulk d + 1
 end
def uptoSmall : (H : Type) → List (DataW H) → Bool := fun _ ds => decide (uptoBulkAll ds ≤ 1048576)
def OpenSpec.upto (s : _root_.Go.ChangeSpec) : _root_.Go.OpenSpec := { _root_.Go.OpenSpec.ofChange s with cond := some uptoSmall }

/-- 'ladinglaw11.KeysHolds', WHERE WHAT IT READS IS OF BULK AT MOST 1048576: true; the input reads as it did. -/
def keysHoldsUptoRow : OpenClaim := { program := "ytnbkjaoehkmcpaa", sum := "a5056420aab210501756cc391246a7cd969a72e8034afc81e7a697ec408495ad", func := "lading/ladinglaw11.KeysHolds", spec := "keysHolds", unfollowed := true, recurses := true, loops := true, apart := false, narrowed := true }
def KeysHoldsUptoSaid : Prop := keysHoldsUptoRow.holds Try.pinned (OpenSpec.upto keysHoldsSpec)

/-- 'ladinglaw11.KeysMay', WHERE WHAT IT READS IS OF BULK AT MOST 1048576: true; the input reads as it did. -/
def keysMayUptoRow : OpenClaim := { program := "ytnbkjaoehkmcpaa", sum := "a5056420aab210501756cc391246a7cd969a72e8034afc81e7a697ec408495ad", func := "lading/ladinglaw11.KeysMay", spec := "keysMay", unfollowed := true, recurses := true, loops := true, apart := false, narrowed := true }
def KeysMayUptoSaid : Prop := keysMayUptoRow.holds Try.pinned (OpenSpec.upto keysMaySpec)

/-- 'ladinglaw11.KeysDelegate', WHERE WHAT IT READS IS OF BULK AT MOST 1048576: true; the input reads as it did. -/
def keysDelegateUptoRow : OpenClaim := { program := "ytnbkjaoehkmcpaa", sum := "a5056420aab210501756cc391246a7cd969a72e8034afc81e7a697ec408495ad", func := "lading/ladinglaw11.KeysDelegate", spec := "keysDelegate", unfollowed := true, recurses := true, loops := true, apart := false, narrowed := true }
def KeysDelegateUptoSaid : Prop := keysDelegateUptoRow.holds Try.pinned (OpenSpec.upto keysDelegateSpec)

/-- 'ladinglaw11.KeysTells', WHERE WHAT IT READS IS OF BULK AT MOST 1048576: true; the input reads as it did. -/
def keysTellsUptoRow : OpenClaim := { program := "ytnbkjaoehkmcpaa", sum := "a5056420aab210501756cc391246a7cd969a72e8034afc81e7a697ec408495ad", func := "lading/ladinglaw11.KeysTells", spec := "keysTells", unfollowed := true, recurses := true, loops := true, apart := false, narrowed := true }
def KeysTellsUptoSaid : Prop := keysTellsUptoRow.holds Try.pinned (OpenSpec.upto keysTellsSpec)

/-- 'ladinglaw11.KeysChain', WHERE WHAT IT READS IS OF BULK AT MOST 1048576: true; the input reads as it did. -/
def keysChainUptoRow : OpenClaim := { program := "ytnbkjaoehkmcpaa", sum := "a5056420aab210501756cc391246a7cd969a72e8034afc81e7a697ec408495ad", func := "lading/ladinglaw11.KeysChain", spec := "keysChain", unfollowed := true, recurses := true, loops := true, apart := false, narrowed := true }
def KeysChainUptoSaid : Prop := keysChainUptoRow.holds Try.pinned (OpenSpec.upto keysChainSpec)

end Rows
end Go.Proofs.Ytnbkjaoehkmcpaa
