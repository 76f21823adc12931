/- Contracts of functions of the program, by the texts that it imports. No conditions. -/
import Derived.Test.YtaabokmbkohieaaW6
import Derived.Test.YtaabokmbkohieaaInkGe
set_option linter.unusedVariables false
set_option linter.unusedSimpArgs false
namespace Go.Proofs.Ytaabokmbkohieaa
open Ink Go
set_option maxRecDepth 100000
set_option linter.all false
end Go.Proofs.Ytaabokmbkohieaa
