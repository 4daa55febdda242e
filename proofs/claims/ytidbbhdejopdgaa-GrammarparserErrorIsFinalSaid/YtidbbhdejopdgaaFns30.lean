/- Functions of the given program, compiled to the own form by program. -/
import Derived.Test.YtidbbhdejopdgaaProg
import Derived.KernelRfl
import Derived.Test.YtidbbhdejopdgaaAvF
import Derived.Test.YtidbbhdejopdgaaFns1
set_option linter.unusedVariables false
set_option linter.unusedSimpArgs false
namespace Go.Av
open Go Go.Proofs
end Go.Av
