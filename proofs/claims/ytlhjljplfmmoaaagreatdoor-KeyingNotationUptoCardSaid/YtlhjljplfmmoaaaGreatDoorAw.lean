/- The chapter's examples: awake answers true. -/
import Derived.Test.YtlhjljplfmmoaaaGreatDoorSym
namespace Go.Proofs.YtlhjljplfmmoaaaGreatDoor.Ev
open Go
set_option linter.unusedSimpArgs false
set_option linter.unusedVariables false
set_option maxRecDepth 10000
set_option maxHeartbeats 4000000
theorem awake_ev (m : Nat) : (ev Tryz.prog tab (m + 40)).callA 15 [] = some [.val (.bool true)] := by kernel_rfl
end Go.Proofs.YtlhjljplfmmoaaaGreatDoor.Ev
