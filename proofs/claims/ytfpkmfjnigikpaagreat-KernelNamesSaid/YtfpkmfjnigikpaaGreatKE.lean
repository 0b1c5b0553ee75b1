/- The law KernelNames, evaluated. -/
import Derived.Test.YtfpkmfjnigikpaaGreatTz
set_option autoImplicit false
set_option maxRecDepth 100000
namespace Go.Proofs.YtfpkmfjnigikpaaGreat.Fw.Cm
open Go Go.Proofs
theorem kernelNames_eval : isTrue (evalF Tryz.prog T 100000 3) = true := by decide +kernel
theorem T_ok : T.okB Tryz.prog = true := by decide +kernel
end Go.Proofs.YtfpkmfjnigikpaaGreat.Fw.Cm
