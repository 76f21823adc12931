/- Contracts of functions of the program, by the texts that it imports. No conditions. -/
import Derived.Test.YtdooejjnjfgnjaaW6
import Derived.Test.YtdooejjnjfgnjaaInk19
set_option linter.unusedVariables false
set_option linter.unusedSimpArgs false
namespace Go.Proofs.Ytdooejjnjfgnjaa
open Ink Go
set_option maxRecDepth 100000
set_option linter.all false
end Go.Proofs.Ytdooejjnjfgnjaa
