
import Derived.Test.YtcdjkbgedmehjaaDoorVB6
import Derived.Test.YtcdjkbgedmehjaaDoorVQ1
namespace Go.Proofs.YtcdjkbgedmehjaaDoor
set_option linter.unusedVariables false
open Go.RowKit
end Go.Proofs.YtcdjkbgedmehjaaDoor
