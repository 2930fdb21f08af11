/-
  No cell of these rows narrows 'for every input' (looked for: loops, veiled, ifaces, maps, wideKeys, modest, calm, conditions, laid).
  DERIVED. THE GIVEN ROWS OF THIS SEAT. 5 by the template 'for every input the law returns true; each argument reads behind the call as it read before'; 0 by the template 'total and deterministic' (their statements: YtimiahoaafjmmaaTotals.lean).
  GIVEN WITH THE SEED: the statements are not yours to turn. If you find one false, say at which input.
  Laid BY PROGRAM, IN A SANDBOX (cutbox-rows.mjs): the forced cells as the released guide's own fill.sh prints them over the translation e137557248d5afd9… (all of the seat's roots in one cut). By AI agents, Wed Nov 11 2026. No macro, syntax, notation, axiom, sorry.
-/
import Derived.Test.YtimiahoaafjmmaaChecked
import GoSem.Claim
import GoSem.ClaimJoined
import GoSem.ClaimMapViews
import Derived.JoinedTies
import Derived.KernelRfl
namespace Go.Proofs.Ytimiahoaafjmmaa
/- THE CELL 'sum', in the pinned program and in every row, IS THE sha256 OF THE DUMP (.gsa) THAT YtimiahoaafjmmaaProg.lean LOADS. Nothing in Lean hashes anything: it is a label: what it is worth is what the hold of that sum in a sandbox is worth. -/
noncomputable def Try.pinned : Pinned := { name := "ytimiahoaafjmmaa", sum := "e137557248d5afd9b66fe9773485e066abe80c6c19c610750bca4689ed986d7a", checked := Try.checked }
namespace Rows
def none {H : Type} : Left H := { results := [], args := [] }

/-- 'ladinglaw28.PreferTells': WHATEVER THE INPUT: true; the input reads as it did. -/
def preferTellsSpec : ChangeSpec := { name := "preferTells", fn := fun _ => fun
  | [d1, d2, d3, d4, d5, d6, d7] => { results := [.lit (.bool true)], args := [d1, d2, d3, d4, d5, d6, d7] }
  | _ => none }
def preferTellsRow : OpenClaim := { program := "ytimiahoaafjmmaa", sum := "e137557248d5afd9b66fe9773485e066abe80c6c19c610750bca4689ed986d7a", func := "lading/ladinglaw28.PreferTells", spec := "preferTells", unfollowed := true, recurses := true, apart := false }
def PreferTellsSaid : Prop := preferTellsRow.holds Try.pinned (OpenSpec.ofChange preferTellsSpec)

/-- ITS FALSE NEIGHBOUR: 'it returns false'. Refute it at one input. -/
def preferTellsWrong : ChangeSpec := { name := "preferTells", fn := fun _ => fun
  | [d1, d2, d3, d4, d5, d6, d7] => { results := [.lit (.bool false)], args := [d1, d2, d3, d4, d5, d6, d7] }
  | _ => none }
def PreferTellsWrongFalsely : Prop := preferTellsRow.holds Try.pinned (OpenSpec.ofChange preferTellsWrong)

/-- 'ladinglaw28.PreferBest': WHATEVER THE INPUT: true; the input reads as it did. -/
def preferBestSpec : ChangeSpec := { name := "preferBest", fn := fun _ => fun
  | [d1, d2, d3] => { results := [.lit (.bool true)], args := [d1, d2, d3] }
  | _ => none }
def preferBestRow : OpenClaim := { program := "ytimiahoaafjmmaa", sum := "e137557248d5afd9b66fe9773485e066abe80c6c19c610750bca4689ed986d7a", func := "lading/ladinglaw28.PreferBest", spec := "preferBest", unfollowed := true, recurses := true, apart := false }
def PreferBestSaid : Prop := preferBestRow.holds Try.pinned (OpenSpec.ofChange preferBestSpec)

/-- ITS FALSE NEIGHBOUR: 'it returns false'. Refute it at one input. -/
def preferBestWrong : ChangeSpec := { name := "preferBest", fn := fun _ => fun
  | [d1, d2, d3] => { results := [.lit (.bool false)], args := [d1, d2, d3] }
  | _ => none }
def PreferBestWrongFalsely : Prop := preferBestRow.holds Try.pinned (OpenSpec.ofChange preferBestWrong)

/-- 'ladinglaw28.PreferSound': WHATEVER THE INPUT: true; the input reads as it did. -/
def preferSoundSpec : ChangeSpec := { name := "preferSound", fn := fun _ => fun
  | [d1, d2, d3, d4, d5, d6, d7] => { results := [.lit (.bool true)], args := [d1, d2, d3, d4, d5, d6, d7] }
  | _ => none }
def preferSoundRow : OpenClaim := { program := "ytimiahoaafjmmaa", sum := "e137557248d5afd9b66fe9773485e066abe80c6c19c610750bca4689ed986d7a", func := "lading/ladinglaw28.PreferSound", spec := "preferSound", unfollowed := true, recurses := true, apart := false }
def PreferSoundSaid : Prop := preferSoundRow.holds Try.pinned (OpenSpec.ofChange preferSoundSpec)

/-- ITS FALSE NEIGHBOUR: 'it returns false'. Refute it at one input. -/
def preferSoundWrong : ChangeSpec := { name := "preferSound", fn := fun _ => fun
  | [d1, d2, d3, d4, d5, d6, d7] => { results := [.lit (.bool false)], args := [d1, d2, d3, d4, d5, d6, d7] }
  | _ => none }
def PreferSoundWrongFalsely : Prop := preferSoundRow.holds Try.pinned (OpenSpec.ofChange preferSoundWrong)

/-- 'ladinglaw28.PreferOrder': WHATEVER THE INPUT: true; the input reads as it did. -/
def preferOrderSpec : ChangeSpec := { name := "preferOrder", fn := fun _ => fun
  | [d1, d2, d3, d4, d5] => { results := [.lit (.bool true)], args := [d1, d2, d3, d4, d5] }
  | _ => none }
def preferOrderRow : OpenClaim := { program := "ytimiahoaafjmmaa", sum := "e137557248d5afd9b66fe9773485e066abe80c6c19c610750bca4689ed986d7a", func := "lading/ladinglaw28.PreferOrder", spec := "preferOrder", unfollowed := true, recurses := true, apart := false }
def PreferOrderSaid : Prop := preferOrderRow.holds Try.pinned (OpenSpec.ofChange preferOrderSpec)

/-- ITS FALSE NEIGHBOUR: 'it returns false'. Refute it at one input. -/
def preferOrderWrong : ChangeSpec := { name := "preferOrder", fn := fun _ => fun
  | [d1, d2, d3, d4, d5] => { results := [.lit (.bool false)], args := [d1, d2, d3, d4, d5] }
  | _ => none }
def PreferOrderWrongFalsely : Prop := preferOrderRow.holds Try.pinned (OpenSpec.ofChange preferOrderWrong)

/-- 'ladinglaw28.PreferMore': WHATEVER THE INPUT: true; the input reads as it did. -/
def preferMoreSpec : ChangeSpec := { name := "preferMore", fn := fun _ => fun
  | [d1, d2, d3, d4, d5] => { results := [.lit (.bool true)], args := [d1, d2, d3, d4, d5] }
  | _ => none }
def preferMoreRow : OpenClaim := { program := "ytimiahoaafjmmaa", sum := "e137557248d5afd9b66fe9773485e066abe80c6c19c610750bca4689ed986d7a", func := "lading/ladinglaw28.PreferMore", spec := "preferMore", unfollowed := true, recurses := true, apart := false }
def PreferMoreSaid : Prop := preferMoreRow.holds Try.pinned (OpenSpec.ofChange preferMoreSpec)

/-- ITS FALSE NEIGHBOUR: 'it returns false'. Refute it at one input. -/
def preferMoreWrong : ChangeSpec := { name := "preferMore", fn := fun _ => fun
  | [d1, d2, d3, d4, d5] => { results := [.lit (.bool false)], args := [d1, d2, d3, d4, d5] }
  | _ => none }
def PreferMoreWrongFalsely : Prop := preferMoreRow.holds Try.pinned (OpenSpec.ofChange preferMoreWrong)

/- THE SECOND FORM. 'bulk': how many values and letters a reading holds, each counted each time it is reached (what is shared counts as often as it is met; a slice's spare places count too). A statement '..UptoSaid' is the law's where the arguments, and the package variables that the reading takes, are together of bulk at most 1048576: NARROWER than '..Said'. Prove '..Said' where nothing that the law and all that it calls make is longer than what came in: it says more and counts as full. Else prove '..UptoSaid'. A law counts once. -/
mutual
def uptoBulk {H : Type} : DataW H → Nat
  | .lit (.string bytes) => bytes.length + 1
  | .lit _ => 1
  | .nil => 1
  | .ptr d => uptoBulk d + 1
  | .slice elems spare => uptoBulkAll elems + uptoBulkAll spare + 1
  | .agg parts => uptoBulkAll parts + 1
  | .iface _ d => uptoBulk d + 1
  | .map entries => uptoBulkEntries entries + 1
  | .held _ => 1
def uptoBulkAll {H : Type} : List (DataW H) → Nat
  | [] => 0
  | d :: r => uptoBulk d + uptoBulkAll r
def uptoBulkEntries {H : Type} : List (Lit × DataW H) → Nat
  | [] => 0
  | x :: r => uptoBulkEntry x + uptoBulkEntries r
def uptoBulkEntry {H : Type} : Lit × DataW H → Nat
  | (.string bytes, d) => bytes.length + uptoBulk d + 1
  | (_, d) => uptoBulk d + 1
 end
def uptoSmall : (H : Type) → List (DataW H) → Bool := fun _ ds => decide (uptoBulkAll ds ≤ 1048576)
def OpenSpec.upto (s : _root_.Go.ChangeSpec) : _root_.Go.OpenSpec := { _root_.Go.OpenSpec.ofChange s with cond := some uptoSmall }

/-- 'ladinglaw28.PreferTells', WHERE WHAT IT READS IS OF BULK AT MOST 1048576: true; the input reads as it did. -/
def preferTellsUptoRow : OpenClaim := { program := "ytimiahoaafjmmaa", sum := "e137557248d5afd9b66fe9773485e066abe80c6c19c610750bca4689ed986d7a", func := "lading/ladinglaw28.PreferTells", spec := "preferTells", unfollowed := true, recurses := true, apart := false, narrowed := true }
def PreferTellsUptoSaid : Prop := preferTellsUptoRow.holds Try.pinned (OpenSpec.upto preferTellsSpec)

/-- 'ladinglaw28.PreferBest', WHERE WHAT IT READS IS OF BULK AT MOST 1048576: true; the input reads as it did. -/
def preferBestUptoRow : OpenClaim := { program := "ytimiahoaafjmmaa", sum := "e137557248d5afd9b66fe9773485e066abe80c6c19c610750bca4689ed986d7a", func := "lading/ladinglaw28.PreferBest", spec := "preferBest", unfollowed := true, recurses := true, apart := false, narrowed := true }
def PreferBestUptoSaid : Prop := preferBestUptoRow.holds Try.pinned (OpenSpec.upto preferBestSpec)

/-- 'ladinglaw28.PreferSound', WHERE WHAT IT READS IS OF BULK AT MOST 1048576: true; the input reads as it did. -/
def preferSoundUptoRow : OpenClaim := { program := "ytimiahoaafjmmaa", sum := "e137557248d5afd9b66fe9773485e066abe80c6c19c610750bca4689ed986d7a", func := "lading/ladinglaw28.PreferSound", spec := "preferSound", unfollowed := true, recurses := true, apart := false, narrowed := true }
def PreferSoundUptoSaid : Prop := preferSoundUptoRow.holds Try.pinned (OpenSpec.upto preferSoundSpec)

/-- 'ladinglaw28.PreferOrder', WHERE WHAT IT READS IS OF BULK AT MOST 1048576: true; the input reads as it did. -/
def preferOrderUptoRow : OpenClaim := { program := "ytimiahoaafjmmaa", sum := "e137557248d5afd9b66fe9773485e066abe80c6c19c610750bca4689ed986d7a", func := "lading/ladinglaw28.PreferOrder", spec := "preferOrder", unfollowed := true, recurses := true, apart := false, narrowed := true }
def PreferOrderUptoSaid : Prop := preferOrderUptoRow.holds Try.pinned (OpenSpec.upto preferOrderSpec)

/-- 'ladinglaw28.PreferMore', WHERE WHAT IT READS IS OF BULK AT MOST 1048576: true; the input reads as it did. -/
def preferMoreUptoRow : OpenClaim := { program := "ytimiahoaafjmmaa", sum := "e137557248d5afd9b66fe9773485e066abe80c6c19c610750bca4689ed986d7a", func := "lading/ladinglaw28.PreferMore", spec := "preferMore", unfollowed := true, recurses := true, apart := false, narrowed := true }
def PreferMoreUptoSaid : Prop := preferMoreUptoRow.holds Try.pinned (OpenSpec.upto preferMoreSpec)

end Rows
end Go.Proofs.Ytimiahoaafjmmaa
