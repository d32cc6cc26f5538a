/- keying.Valid at kind 5: what it computes. -/
import Derived.Test.YtlhjljplfmmoaaaGreatDoorF33
namespace Go.Proofs.YtlhjljplfmmoaaaGreatDoor.Ev
open Go
set_option linter.unusedSimpArgs false
set_option linter.unusedVariables false
set_option maxRecDepth 10000
set_option maxHeartbeats 4000000
theorem kv5 (n : Nat) (it : It) (a : Ans) (hk : it.kind = 5) (hn : it.Fit n) (hm : it.Fit 9223372036854775807) (hz : it.choices.length * 8 ≤ 140737488351232) (ha : a.choices.length ≤ 9223372036854775806) (han : a.choices.length ≤ n) (hn10 : 10 ≤ n) : (ev Tryz.prog tab (n + 21)).callA 12 [it.pv, a.pv] = some [intP (kvalidI it a)] := by
  have w := valid_ev n it hn hm hz
  have wc := chosen_ev2 (n + 19) 5
  have ww := written_ev2 (n + 19) 5
  rw [show chosenB 5 = false from rfl] at wc
  rw [show writtenC 5 = true from rfl] at ww
  have ho := valid_opts (it := it)
  have wch := fun h => choices_ev (n + 17) it a.choices ha (by omega) (ho h) (by omega)
  rw [hk] at wch
  unfold kvalidI
  rw [hk]
  obtain ⟨id, ver, kind, stem, opts, choices, val, tol, texts, pts, cont, fam, set, words, secs, assets, rub⟩ := it
  obtain ⟨aid, ach, av, at', om⟩ := a
  simp only at hk ha wch
  subst hk
  rw [callA_fn rfl Tryz.func12 rfl rfl rfl]
  by_cases hv : validI ⟨id, ver, 5, stem, opts, choices, val, tol, texts, pts, cont, fam, set, words, secs, assets, rub⟩ = 0
  · have wch := wch hv
    rw [hv] at w
    simp only [It.pv, intP, strP] at w wc ww
    simp only [It.pv] at wch
    have hq : ∀ z : Int, intP z = .val (.int .i64 z) := fun _ => rfl
    simp only [hq] at wch
    by_cases hid : aid = id
    · subst hid
      cases om
      · simp [-frame, Tryz.f12, It.pv, Ans.pv, intP, strP, w, wc, ww, hv]
        repeat' ((first | refine test_cases ?_ ?_ | refine cond_cases ?_ ?_) <;> intro h <;> (try simp only [Bool.not_eq_true', Bool.not_eq_false', decide_eq_true_eq, decide_eq_false_iff_not] at h) <;> simp [-frame, h, w, wc, ww, wch, hv])
        all_goals simp_all [badB, emptyS, inner, show chosenB 5 = false from rfl, show writtenC 5 = true from rfl]
        all_goals (try omega)
      · simp [-frame, Tryz.f12, It.pv, Ans.pv, intP, strP, w, wc, ww, hv]
        repeat' ((first | refine test_cases ?_ ?_ | refine cond_cases ?_ ?_) <;> intro h <;> (try simp only [Bool.not_eq_true', Bool.not_eq_false', decide_eq_true_eq, decide_eq_false_iff_not] at h) <;> simp [-frame, h, w, wc, ww, wch, hv])
        all_goals simp_all [badB, emptyS, inner, show chosenB 5 = false from rfl, show writtenC 5 = true from rfl]
        all_goals (try omega)
    · simp [-frame, Tryz.f12, It.pv, Ans.pv, intP, strP, w, wc, ww, hv, hid]
  · simp only [It.pv, intP, strP] at w
    simp [-frame, Tryz.f12, It.pv, Ans.pv, intP, strP, w, hv]
end Go.Proofs.YtlhjljplfmmoaaaGreatDoor.Ev
