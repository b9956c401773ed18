import Derived.Test.YtoaidbmkfdpagaaTubeGame
/- The laws about the pours of a game. -/
namespace Go.Proofs.Ytoaidbmkfdpagaa.AM
open Go
set_option maxRecDepth 1000000
set_option linter.unusedSimpArgs false
set_option linter.unusedVariables false
end Go.Proofs.Ytoaidbmkfdpagaa.AM
