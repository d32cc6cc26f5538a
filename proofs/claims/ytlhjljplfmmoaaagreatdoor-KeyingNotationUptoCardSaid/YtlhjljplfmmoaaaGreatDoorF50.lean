/- keying.Valid: what it computes. -/
import Derived.Test.YtlhjljplfmmoaaaGreatDoorF41
import Derived.Test.YtlhjljplfmmoaaaGreatDoorF42
import Derived.Test.YtlhjljplfmmoaaaGreatDoorF43
import Derived.Test.YtlhjljplfmmoaaaGreatDoorF44
import Derived.Test.YtlhjljplfmmoaaaGreatDoorF45
import Derived.Test.YtlhjljplfmmoaaaGreatDoorF46
namespace Go.Proofs.YtlhjljplfmmoaaaGreatDoor.Ev
open Go
set_option linter.unusedSimpArgs false
set_option linter.unusedVariables false
set_option maxRecDepth 10000
set_option maxHeartbeats 4000000
theorem valid_kind {it : It} (h : validI it = 0) : (1 ≤ it.kind ∧ it.kind ≤ 6) ∧ fitsB it = true ∧ numbersB it = true ∧ stringsB it = true ∧ it.texts.length ≤ 10 ∧ risingB it.assets 1 9999999 = true := by
  unfold validI at h
  split at h
  · simp at h
  · rename_i h0
    split at h
    · simp at h
    · rename_i h1
      split at h
      · simp at h
      · rename_i h2
        split at h
        · simp at h
        · rename_i h3
          split at h
          · simp at h
          · rename_i h4
            split at h
            · simp at h
            · rename_i h5
              simp only [Bool.not_eq_true', Bool.not_eq_false, Bool.or_eq_true, decide_eq_true_eq] at h0 h1 h2 h3 h4 h5
              simp only [withinB, Bool.and_eq_true, decide_eq_true_eq] at h1
              exact ⟨h1, h4, h0, h2, by omega, h5⟩
theorem kv0 (n : Nat) (it : It) (a : Ans) (hv : ¬ validI it = 0) (hn : it.Fit n) (hm : it.Fit 9223372036854775807) (hz : it.choices.length * 8 ≤ 140737488351232) : (ev Tryz.prog tab (n + 21)).callA 12 [it.pv, a.pv] = some [intP (kvalidI it a)] := by
  have w := valid_ev n it hn hm hz
  unfold kvalidI
  rw [if_neg hv]
  generalize hV : validI it = V at *
  obtain ⟨id, ver, kind, stem, opts, choices, val, tol, texts, pts, cont, fam, set, words, secs, assets, rub⟩ := it
  obtain ⟨aid, ach, av, at', om⟩ := a
  simp only [It.pv, intP, strP] at w
  rw [callA_fn rfl Tryz.func12 rfl rfl rfl]
  simp [-frame, Tryz.f12, It.pv, Ans.pv, intP, strP, w, hv]
theorem kvalid_ev (n : Nat) (it : It) (a : Ans) (hn : it.Fit n) (hm : it.Fit 9223372036854775807) (hz : it.choices.length * 8 ≤ 140737488351232) (ha : a.choices.length ≤ 9223372036854775806) (han : a.choices.length ≤ n) (hn10 : 10 ≤ n) : (ev Tryz.prog tab (n + 21)).callA 12 [it.pv, a.pv] = some [intP (kvalidI it a)] := by
  by_cases hv : validI it = 0
  · have hk := (valid_kind hv).1
    have h6 : it.kind = 1 ∨ it.kind = 2 ∨ it.kind = 3 ∨ it.kind = 4 ∨ it.kind = 5 ∨ it.kind = 6 := by omega
    rcases h6 with h | h | h | h | h | h
    · exact kv1 n it a h hn hm hz ha han hn10
    · exact kv2 n it a h hn hm hz ha han hn10
    · exact kv3 n it a h hn hm hz ha han hn10
    · exact kv4 n it a h hn hm hz ha han hn10
    · exact kv5 n it a h hn hm hz ha han hn10
    · exact kv6 n it a h hn hm hz ha han hn10
  · exact kv0 n it a hv hn hm hz
end Go.Proofs.YtlhjljplfmmoaaaGreatDoor.Ev
