/- The law KeyingNormal, called. -/
import Derived.Test.YtlhjljplfmmoaaaGreatDoorF24
import Derived.Test.YtlhjljplfmmoaaaGreatDoorRow
import Derived.Test.YtlhjljplfmmoaaaGreatDoorAw
namespace Go.Proofs.YtlhjljplfmmoaaaGreatDoor.Ev
open Go
set_option linter.unusedSimpArgs false
set_option linter.unusedVariables false
set_option maxRecDepth 10000
set_option maxHeartbeats 4000000
set_option maxRecDepth 100000 in
theorem normal_law (W : World) (args : Array Value) (xs : List PV) (h1 : RepVL (inW W) W xs args.toList) (h2 : FitsAll Tryz.prog 6 [9, 25] xs) : Calls Tryz.prog 6 args W fun e W' => e = .returned (.bool true) ∧ RowKit.Below W.heap.size W W' := by
    obtain ⟨x, y, rfl, hx, hy⟩ := fitsAll2 h2
    obtain ⟨s, rfl, hs⟩ := fitsV_str (n := 5) hx Tryz.underlying9
    obtain ⟨it, rfl, hit, hz, m, hm⟩ := fitsV_item (n := 3) hy
    have hfit : it.Fit 140737488355328 := ⟨by have := hit.stem; omega, by have := hit.cont; omega, by have := hit.opts; omega, fun s hs => by have := hit.optsS s hs; omega, by have := hit.choices; omega, by have := hit.texts; omega, fun s hs => by have := hit.textsS s hs; omega, by have := hit.assets; omega⟩
    have hfm : it.Fit (s.size + m) := ⟨by have := hm.stem; omega, by have := hm.cont; omega, by have := hm.opts; omega, fun s hs => by have := hm.optsS s hs; omega, by have := hm.choices; omega, by have := hm.texts; omega, fun s hs => by have := hm.textsS s hs; omega, by have := hm.assets; omega⟩
    have he := law_ev (s.size + m) s _ rfl it (awake_ev _) (by omega) (by omega) hfm hfit hz
    exact calls_of_ev Tryz.func6 (by kernel_rfl) rfl he h1
end Go.Proofs.YtlhjljplfmmoaaaGreatDoor.Ev
