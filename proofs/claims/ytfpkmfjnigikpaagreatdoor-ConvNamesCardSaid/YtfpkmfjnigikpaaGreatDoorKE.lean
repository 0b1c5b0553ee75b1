/- The law ConvNames, evaluated. -/
import Derived.Test.YtfpkmfjnigikpaaGreatDoorTz
set_option autoImplicit false
set_option maxRecDepth 100000
namespace Go.Proofs.YtfpkmfjnigikpaaGreatDoor.Fw.Cm
open Go Go.Proofs
theorem convNames_eval : isTrue (evalF Tryz.prog T 100000 4) = true := by decide +kernel
end Go.Proofs.YtfpkmfjnigikpaaGreatDoor.Fw.Cm
