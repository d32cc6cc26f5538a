/- item.fits at kind 5. -/
import Derived.Test.YtlhjljplfmmoaaaGreatDoorFB
namespace Go.Proofs.YtlhjljplfmmoaaaGreatDoor.Ev
open Go
set_option linter.unusedSimpArgs false
set_option linter.unusedVariables false
set_option maxRecDepth 10000
set_option maxHeartbeats 4000000
theorem fits5 (n : Nat) (it : It) (hn : it.Fit n) (hm : it.Fit 9223372036854775807) (hk : it.kind = 5) (hz : it.choices.length * 8 ≤ 140737488351232) : (ev Tryz.prog tab (n + 4)).callA 42 [it.pv] = some [.val (.bool (fitsB it))] := by
  obtain ⟨id, ver, kind, stem, opts, choices, val, tol, texts, pts, cont, fam, set, words, secs, assets, rub⟩ := it
  obtain ⟨n1, n2, n3, n4, n5, n6, n7, n8⟩ := hn
  obtain ⟨m1, m2, m3, m4, m5, m6, m7, m8⟩ := hm
  simp only at n1 n2 n3 n4 n5 n6 n7 n8 m1 m2 m3 m4 m5 m6 m7 m8 hz
  have w := within_ev (n + 2)
  have wv := values_g (n + 2) (choices.map intP)
  have ws := sorted_g (n + 2) choices hz
  have wr := rising_ev (n + 1) choices 0 (opts.length - 1) m5 (by omega)
  have wr2 := rising_ev (n + 1) (isort choices) 0 (opts.length - 1) (by rw [isort_length]; exact m5) (by rw [isort_length]; omega)
  have wt := texts_ev (n + 1) texts m6 (by omega) (fun s hs => ⟨m7 s hs, by have := n7 s hs; omega⟩)
  have hq : ∀ z : ByteArray, strP z = .val (.string z) := fun _ => rfl
  have hw : IntKind.i64.wrap ((opts.length : Int) - 1) = opts.length - 1 := wrap_i64 (by omega) (by omega)
  simp only [intP] at w wr wr2
  rw [callA_fn rfl Tryz.func42 rfl rfl rfl]
  simp only at hk
  subst hk
  simp [Tryz.f42, It.pv, isort_length, w, wr, wr2, wt, wv, ws, hw]
  repeat' ((first | refine test_cases ?_ ?_ | refine cond_cases ?_ ?_) <;> intro h <;> (try simp only [Bool.not_eq_true', Bool.not_eq_false', decide_eq_true_eq, decide_eq_false_iff_not] at h) <;> simp [h, isort_length, w, wr, wr2, wt, wv, ws, hw])
  all_goals simp_all [fitsB, keyB, chosenB]
  all_goals (try (intros; omega))
end Go.Proofs.YtlhjljplfmmoaaaGreatDoor.Ev
