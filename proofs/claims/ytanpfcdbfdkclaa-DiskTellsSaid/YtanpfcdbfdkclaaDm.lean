/-
  Layer 02 (disk): what the two loops over maps make.
-/
import Derived.Test.YtanpfcdbfdkclaaD2
namespace Go.Lad
/-- every file's present is its durable part -/
def lastsF (m : List (Int × (List UInt8 × List UInt8))) : List (Int × (List UInt8 × List UInt8)) := m.map fun x => (x.1, (x.2.2, x.2.2))
/-- without the entries of which p says yes -/
def delM {α β : Type} (p : α → β → Option Bool) : List (α × β) → Option (List (α × β))
  | [] => some []
  | x :: r => (p x.1 x.2).bind fun b => (delM p r).bind fun l => some (cond b l (x :: l))
end Go.Lad
