/-
  The bound of the second form of statement, at slices and texts.
-/
import Derived.Test.YtimiahoaafjmmaaD13
import Derived.Test.YtimiahoaafjmmaaRows
namespace Go.Proofs.Ytimiahoaafjmmaa.bulks
open Go.Lad Go.RowKit Go.ChangeShapes Go.WideShapes Go.Deep
end Go.Proofs.Ytimiahoaafjmmaa.bulks
