import Derived.Test.YtbgondiibnjcgaaDoorRng
namespace Go.Proofs.YtbgondiibnjcgaaDoor
open Go.RowKit
set_option maxRecDepth 10000
set_option linter.unusedVariables false
set_option maxHeartbeats 1000000
section
variable {κ ν : Type} {P : Program} {ops : Array Oper} {rest : List Oper} {o : Oper} {a : Act} {Q : Exit → Act → World → Prop} {kf : κ → Value} {vf : ν → Value}
end
end Go.Proofs.YtbgondiibnjcgaaDoor
