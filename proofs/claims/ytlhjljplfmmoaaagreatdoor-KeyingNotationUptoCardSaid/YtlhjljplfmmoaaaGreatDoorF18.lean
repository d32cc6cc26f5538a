/- item.fits, item.Valid: what they compute. -/
import Derived.Test.YtlhjljplfmmoaaaGreatDoorF11
import Derived.Test.YtlhjljplfmmoaaaGreatDoorF12
import Derived.Test.YtlhjljplfmmoaaaGreatDoorF13
import Derived.Test.YtlhjljplfmmoaaaGreatDoorF14
import Derived.Test.YtlhjljplfmmoaaaGreatDoorF15
import Derived.Test.YtlhjljplfmmoaaaGreatDoorF16
import Derived.Test.YtlhjljplfmmoaaaGreatDoorF17
namespace Go.Proofs.YtlhjljplfmmoaaaGreatDoor.Ev
open Go
set_option linter.unusedSimpArgs false
set_option linter.unusedVariables false
set_option maxRecDepth 10000
set_option maxHeartbeats 4000000
noncomputable def validI (it : It) : Int :=
  if !numbersB it then 3
  else if !withinB it.kind 1 6 then 1
  else if !stringsB it then 2
  else if decide (10 < it.opts.length) || (decide (10 < it.texts.length) || decide (8 < it.assets.length)) then 5
  else if !fitsB it then 19
  else if !risingB it.assets 1 9999999 then 23
  else 0
theorem fits_ev (n : Nat) (it : It) (hn : it.Fit n) (hm : it.Fit 9223372036854775807) (hz : it.choices.length * 8 ≤ 140737488351232) : (ev Tryz.prog tab (n + 4)).callA 42 [it.pv] = some [.val (.bool (fitsB it))] := by
  by_cases k1 : it.kind = 1
  · exact fits1 n it hn hm k1 hz
  by_cases k2 : it.kind = 2
  · exact fits2 n it hn hm k2 hz
  by_cases k3 : it.kind = 3
  · exact fits3 n it hn hm k3 hz
  by_cases k4 : it.kind = 4
  · exact fits4 n it hn hm k4 hz
  by_cases k5 : it.kind = 5
  · exact fits5 n it hn hm k5 hz
  by_cases k6 : it.kind = 6
  · exact fits6 n it hn hm k6 hz
  exact fits7 n it hn hm k1 k2 k3 k4 k5 k6 hz
theorem valid_ev (n : Nat) (it : It) (hn : it.Fit n) (hm : it.Fit 9223372036854775807) (hz : it.choices.length * 8 ≤ 140737488351232) : (ev Tryz.prog tab (n + 20)).callA 16 [it.pv] = some [intP (validI it)] := by
  have hn3 : it.Fit (n + 3) := ⟨by have := hn.stem; omega, by have := hn.cont; omega, by have := hn.opts; omega, fun s hs => by have := hn.optsS s hs; omega, by have := hn.choices; omega, by have := hn.texts; omega, fun s hs => by have := hn.textsS s hs; omega, by have := hn.assets; omega⟩
  have hn15 : it.Fit (n + 15) := ⟨by have := hn.stem; omega, by have := hn.cont; omega, by have := hn.opts; omega, fun s hs => by have := hn.optsS s hs; omega, by have := hn.choices; omega, by have := hn.texts; omega, fun s hs => by have := hn.textsS s hs; omega, by have := hn.assets; omega⟩
  have wn := numbers_ev (n + 17) it
  have ww := within_ev (n + 18) it.kind 1 6
  have ws := strings_ev (n + 3) it hn3 hm
  have wf := fits_ev (n + 15) it hn15 hm hz
  have wr := rising_ev (n + 17) it.assets 1 9999999 hm.assets (by have := hn.assets; omega)
  unfold validI
  rw [callA_fn rfl Tryz.func16 rfl rfl rfl]
  generalize numbersB it = vn at *
  generalize withinB it.kind 1 6 = vw at *
  generalize stringsB it = vs at *
  generalize fitsB it = vf at *
  generalize risingB it.assets 1 9999999 = vr at *
  obtain ⟨id, ver, kind, stem, opts, choices, val, tol, texts, pts, cont, fam, set, words, secs, assets, rub⟩ := it
  simp only [It.pv, intP] at wn ww ws wf wr
  cases vn
  · simp [Tryz.f16, It.pv, intP, wn]
  cases vw
  · simp [Tryz.f16, It.pv, intP, wn, ww]
  cases vs
  · simp [Tryz.f16, It.pv, intP, wn, ww, ws]
  by_cases h1 : 10 < (opts.length : Int)
  · simp [Tryz.f16, It.pv, intP, wn, ww, ws, h1, show 10 < opts.length by omega]
  by_cases h2 : 10 < (texts.length : Int)
  · simp [Tryz.f16, It.pv, intP, wn, ww, ws, h1, h2, show 10 < texts.length by omega]
  by_cases h3 : 8 < (assets.length : Int)
  · simp [Tryz.f16, It.pv, intP, wn, ww, ws, h1, h2, h3, show 8 < assets.length by omega]
  have g1 : ¬ 10 < opts.length := by omega
  have g2 : ¬ 10 < texts.length := by omega
  have g3 : ¬ 8 < assets.length := by omega
  cases vf
  · simp [Tryz.f16, It.pv, intP, wn, ww, ws, h1, h2, h3, g1, g2, g3, wf]
  cases vr
  · simp [Tryz.f16, It.pv, intP, wn, ww, ws, h1, h2, h3, g1, g2, g3, wf, wr]
  · simp [Tryz.f16, It.pv, intP, wn, ww, ws, h1, h2, h3, g1, g2, g3, wf, wr]
end Go.Proofs.YtlhjljplfmmoaaaGreatDoor.Ev
