import Derived.Test.YtcmibmohdnbhgaaGreatDoorAb16
namespace Go.Lad
set_option linter.unusedVariables false
set_option linter.unusedSimpArgs false
open Go.RowKit
def encM {κ κ' V:Type} (f:κ → κ') (e:V → List PV) (m:List (κ × V)):List (κ' × List PV):=m.map fun p=>(f p.1,e p.2)
theorem encM_len {κ κ' V:Type} (f:κ → κ') (e:V → List PV) (m:List (κ × V)):(encM f e m).length = m.length:=by simp [encM]
def mkQ (x:Int × Int):Int × Int:=x
end Go.Lad
