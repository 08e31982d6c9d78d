import Derived.Test.YthhpkgegmfjdmaaAbG1
import Derived.Test.YthhpkgegmfjdmaaAbQ1
namespace Go.Proofs.Ythhpkgegmfjdmaa.Ab
open Go
set_option linter.unusedVariables false
set_option linter.unusedSimpArgs false
set_option linter.unnecessarySimpa false
set_option linter.unusedSimpArgs false
set_option linter.unusedVariables false

end Go.Proofs.Ythhpkgegmfjdmaa.Ab
