/- Functions of the given program, compiled to the own form by program. -/
import Derived.Test.YtpdbcfnmhicnbaaDoorProg
import Derived.KernelRfl
import Derived.Test.YtpdbcfnmhicnbaaDoorAvF
set_option linter.unusedVariables false
set_option linter.unusedSimpArgs false
namespace Go.Av
open Go Go.Proofs
variable {K : AK} {env : Env} {H : AHeap}
noncomputable abbrev PP : Program := Tryd.prog
theorem PP_mix : PP.follows .mixedOrders = true := by kernel_rfl
end Go.Av
