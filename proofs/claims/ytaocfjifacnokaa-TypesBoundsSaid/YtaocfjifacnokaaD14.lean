import Derived.Test.YtaocfjifacnokaaD13
import Derived.Test.YtaocfjifacnokaaRows
namespace Go.Proofs.Ytaocfjifacnokaa.bulks
open Go.Lad Go.RowKit Go.ChangeShapes Go.WideShapes Go.Deep
end Go.Proofs.Ytaocfjifacnokaa.bulks
