import Derived.Test.YtbgondiibnjcgaaDoorMsg
import Derived.Test.YtbgondiibnjcgaaDoorNest
namespace Go.Proofs.YtbgondiibnjcgaaDoor
open Go.RowKit Go.Shelf Go.Proofs.YtbgondiibnjcgaaDoor.PRetainPlays Go.Proofs.YtbgondiibnjcgaaDoorW.PrintWords Go.Proofs.YtbgondiibnjcgaaDoorW.PrintLast
set_option maxRecDepth 10000
set_option linter.unusedVariables false
end Go.Proofs.YtbgondiibnjcgaaDoor
