import Derived.Test.YtaocfjifacnokaaGreatD12
namespace Go.Lad
set_option linter.unusedVariables false
noncomputable instance (priority:=high) instDecF:DecidableEq (List ab):=fun a b=>Classical.propDecidable (a = b)
noncomputable instance (priority:=high) instDecE:DecidableEq (List cN):=fun a b=>Classical.propDecidable (a = b)
noncomputable instance (priority:=high) instDecL:DecidableEq (List lS):=fun a b=>Classical.propDecidable (a = b)
def E5 {α:Type} (i:Int) (v l:List α):Option (List α):=cond (leZ 0 i && (leZ i (l.length:Int) && (Nat.ble 1 v.length && Nat.ble (l.length + v.length) 1000000000))) (some (l.take i.toNat ++ v ++ l.drop i.toNat)) none
noncomputable def yZ (f:FuncId) (e:TypeId) (t:Ty):Con:=⟨f,[.c (.v (.own 1000000)),.c (.v (.d (.int .i64))),.c (.v (.d (.sl t)))],[],[(1000000,.arr e t)],[.int .i64,.sl t,.sl t],.one (.v (.own 0)),[(0,.arr e t),(1000000,.gone)],[.sl t],fun x=>E5 (α:=t.den) x.1 x.2.1 x.2.2⟩
end Go.Lad
namespace Go.Proofs.YtaocfjifacnokaaGreat
open Go.Lad
def kO {α:Type} (xs:List α):List (Int × α):=(xs.zipIdx.map fun q=>((q.2:Int),q.1)).reverse
def Hq {α:Type} (xs:List α):Option (List (Int × α)):=some (kO xs)
def oN:List cY → Option (List (Int × List UInt8 × Int × List ab))
 | [.box _ [.v (.sl (.pair .str (.pair (.int .i64) (.slu 0)))) xs]]=>Hq xs
 | _=>none
def vK (l:List cY) (_:Nat):List cY:=l
end Go.Proofs.YtaocfjifacnokaaGreat
