/- keying.chosen, keying.written: what they compute. -/
import Derived.Test.YtlhjljplfmmoaaaGreatDoorF18
namespace Go.Proofs.YtlhjljplfmmoaaaGreatDoor.Ev
open Go
set_option linter.unusedSimpArgs false
set_option linter.unusedVariables false
set_option maxRecDepth 10000
set_option maxHeartbeats 4000000
theorem chosen_ev2 (n : Nat) (k : Int) : (ev Tryz.prog tab (n + 1)).callA 31 [intP k] = some [.val (.bool (chosenB k))] := by
  rw [callA_fn rfl Tryz.func31 rfl rfl rfl]
  by_cases h1 : k = 1
  · simp [Tryz.f31, intP, chosenB, h1]
  by_cases h2 : k = 2
  · simp [Tryz.f31, intP, chosenB, h2]
  · simp [Tryz.f31, intP, chosenB, h1, h2]
def writtenC (k : Int) : Bool := decide (k = 5) || decide (k = 6)
theorem written_ev2 (n : Nat) (k : Int) : (ev Tryz.prog tab (n + 1)).callA 32 [intP k] = some [.val (.bool (writtenC k))] := by
  rw [callA_fn rfl Tryz.func32 rfl rfl rfl]
  by_cases h1 : k = 5
  · simp [Tryz.f32, intP, writtenC, h1]
  · simp [Tryz.f32, intP, writtenC, h1]
end Go.Proofs.YtlhjljplfmmoaaaGreatDoor.Ev
