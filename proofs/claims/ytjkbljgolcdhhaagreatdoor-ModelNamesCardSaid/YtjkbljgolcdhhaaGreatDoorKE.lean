/- The law ModelNames, evaluated. -/
import Derived.Test.YtjkbljgolcdhhaaGreatDoorTz
set_option autoImplicit false
set_option maxRecDepth 100000
namespace Go.Proofs.YtjkbljgolcdhhaaGreatDoor.Fw.Cm
open Go Go.Proofs
theorem modelNames_eval : isTrue (evalF Tryz.prog T 100000 3) = true := by decide +kernel
end Go.Proofs.YtjkbljgolcdhhaaGreatDoor.Fw.Cm
