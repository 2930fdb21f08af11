/-
  Contracts of library functions that are proved elsewhere: strings.Split.
-/
import Derived.Test.YtnjmhnogpgnbmaaE1
import Derived.Lib.Split
import Derived.Lib.SplitLaws
namespace Go.Lad
set_option linter.unusedVariables false
set_option linter.unusedSimpArgs false
open Go.RowKit

end Go.Lad
