import Derived.Test.YtoafakkbmnnimaaAbG1
import Derived.Test.YtoafakkbmnnimaaAbQ1
namespace Go.Proofs.Ytoafakkbmnnimaa.Ab
open Go
set_option linter.unusedVariables false
set_option linter.unusedSimpArgs false
set_option linter.unnecessarySimpa false
set_option linter.unusedSimpArgs false
set_option linter.unusedVariables false

end Go.Proofs.Ytoafakkbmnnimaa.Ab
