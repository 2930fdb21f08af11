import Derived.Test.YtcppfkflcigjcaaGreatDoorRows
import Derived.Test.YtcppfkflcigjcaaGreatDoorCards
import Derived.Test.YtcppfkflcigjcaaGreatDoorFF
import Derived.Lib.ItoaNum
import Derived.Lib.Space
import Derived.ProofKit
import Derived.OpenShut
import Derived.ShutString
import Derived.ChangeOld
import Derived.Below
import Derived.JoinedCond
import Derived.Deep.DeepHandedRow
import Derived.Lib.LaidTab
import Derived.Deep.DeepLaidRun
import Derived.Deep.DeepWitnessRowRef
import Derived.LaidMore
namespace Go.Proofs.YtcppfkflcigjcaaGreatDoor.topBackwards
open Go.ChangeShapes Go.WideShapes Go.ChangeAt Go.RowKit Go.Lad
open Go.ChangeMaps (open_string shut_string)
set_option linter.unusedVariables false
set_option linter.unusedSimpArgs false
noncomputable def vO (os:Os):World :=
 let w0:=World.holding Tryz.prog os ⟨#[.cells #[.string ⟨#[118,97,108,117,101,32,111,117,116,32,111,102,32,114,97,110,103,101]⟩] 547,.cells #[.string ⟨#[105,110,118,97,108,105,100,32,115,121,110,116,97,120]⟩] 547,
  .cells (([9,13,1,32,133,101,160,5760,5600,8192,8202,1,8232,8233,1,8239,8287,48,12288,12288,1]:List Int).map fun z=>Value.int .u16 z).toArray 555,.cells #[.slice (some ⟨19,0,none⟩) 7 7,.slice none 0 0,.int .i64 2] 552],#[],[]⟩
 let put (h:Array Obj) (g:Nat) (cs:Array Value):Array Obj:=h.modify g fun
  | .cells _ t frozen=>.cells cs t frozen
  | o=>o
 let h1:=put w0.heap 1 (([[61,61],[59],[44],[61],[60],[43],[45],[42],[46],[33],[40],[41],[123],[125]]:List (List UInt8)).map fun z=>Value.string ⟨z.toArray⟩).toArray
 let h2:=put h1 2 (Lib.asciiSpaceTab.map fun z=>Value.int .u8 z).toArray
 let h3:=put h2 3 #[.iface 545 (.pointer (some ⟨18,0,none⟩))]
 let h4:=put h3 4 #[.iface 545 (.pointer (some ⟨17,0,none⟩))]
 let h5:=put h4 5 (Lib.pow10Tab.map fun z=>Value.int .u64 z).toArray
 let h6:=put h5 6 (Go.Pinned.utf8FirstZ.map fun (n:Nat)=>Value.int .u8 (Int.ofNat n)).toArray
 let h7:=put h6 7 (([128,191,160,191,128,159,144,191,128,143,0,0,0,0,0,0,0,0,0,0,0,0,0,0,0,0,0,0,0,0,0,0]:List Int).map fun z=>Value.int .u8 z).toArray
 let h8:=put h7 8 #[.pointer (some ⟨20,0,none⟩)]
 let h9:=put h8 9 (([0,1,28,2,29,14,24,3,30,22,20,15,25,17,4,8,31,27,13,23,21,19,16,7,26,12,18,6,11,5,10,9]:List Int).map fun z=>Value.int .u8 z).toArray
 let h10:=put h9 10 (([0,1,56,2,57,49,28,3,61,58,42,50,38,29,17,4,62,47,59,36,45,43,51,22,53,39,33,30,24,18,12,5,63,55,48,27,60,41,37,16,46,35,44,21,52,32,23,11,54,26,40,15,34,20,31,10,25,14,19,9,13,8,7,6]:List Int).map fun z=>Value.int .u8 z).toArray
 { w0 with heap:=h10 }
theorem Mq (os:Os):laidMet Tryz.prog Rows.topBackwardsRow.laid ((vO os).forCall (fun _ _=>0) ⟨#[],#[.agg #[.slice none 0 0,.slice none 0 0,.slice none 0 0],.slice none 0 0,.int .i64 0],[]⟩).memory :=
 laidMet_of_run3 10 (by kernel_rfl) (by kernel_rfl) (by kernel_rfl)
theorem reads (os:Os) {H:Type} (enc:TypeId×Value->H):∃ places,DataW.whole enc Tryz.prog ((vO os).forCall (fun _ _=>0) ⟨#[],#[.agg #[.slice none 0 0,.slice none 0 0,.slice none 0 0],.slice none 0 0,.int .i64 0],[]⟩).memory Tryz.f3.params.toList Rows.topBackwardsSpec.vars false (#[.agg #[.slice none 0 0,.slice none 0 0,.slice none 0 0],.slice none 0 0,.int .i64 0]:Array Value).toList 8=some ([.agg [.nil,.nil,.nil],.nil,.lit (.int .i64 0)],[],places) :=
 ⟨[],by kernel_rfl⟩
end Go.Proofs.YtcppfkflcigjcaaGreatDoor.topBackwards
