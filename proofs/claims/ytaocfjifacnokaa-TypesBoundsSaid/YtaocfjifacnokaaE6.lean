import Derived.Test.YtaocfjifacnokaaD12
namespace Go.Lad
set_option linter.unusedVariables false
noncomputable instance (priority:=high) instDecF:DecidableEq (List FieldT):=fun a b=>Classical.propDecidable (a = b)
noncomputable instance (priority:=high) instDecE:DecidableEq (List ExpT):=fun a b=>Classical.propDecidable (a = b)
noncomputable instance (priority:=high) instDecL:DecidableEq (List LicT):=fun a b=>Classical.propDecidable (a = b)
def insF {α:Type} (i:Int) (v l:List α):Option (List α):=cond (leZ 0 i && (leZ i (l.length:Int) && (Nat.ble 1 v.length && Nat.ble (l.length + v.length) 1000000000))) (some (l.take i.toNat ++ v ++ l.drop i.toNat)) none
noncomputable def insCon (f:FuncId) (e:TypeId) (t:Ty):Con:=⟨f,[.c (.v (.own 1000000)),.c (.v (.d (.int .i64))),.c (.v (.d (.sl t)))],[],[(1000000,.arr e t)],[.int .i64,.sl t,.sl t],.one (.v (.own 0)),[(0,.arr e t),(1000000,.gone)],[.sl t],fun x=>insF (α:=t.den) x.1 x.2.1 x.2.2⟩
end Go.Lad
namespace Go.Proofs.Ytaocfjifacnokaa
open Go.Lad
def backL {α:Type} (xs:List α):List (Int × α):=(xs.zipIdx.map fun q=>((q.2:Int),q.1)).reverse
def backF {α:Type} (xs:List α):Option (List (Int × α)):=some (backL xs)
def itBackFn:List TObj → Option (List (Int × List UInt8 × Int × List FieldT))
 | [.box _ [.v (.sl (.pair .str (.pair (.int .i64) (.slu 0)))) xs]]=>backF xs
 | _=>none
def itBackAt (l:List TObj) (_:Nat):List TObj:=l
end Go.Proofs.Ytaocfjifacnokaa
