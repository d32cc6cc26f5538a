/- The reference's key at the kinds without a loop: what it computes. -/
import Derived.Test.YtlhjljplfmmoaaaGreatDoorRA
namespace Go.Proofs.YtlhjljplfmmoaaaGreatDoor.Ev
open Go
set_option linter.unusedSimpArgs false
set_option linter.unusedVariables false
set_option maxRecDepth 10000
set_option maxHeartbeats 4000000
def keyR (it : It) : Bool :=
  if it.kind = 3 then decide (it.val = 0) && decide (it.tol = 0) && decide (it.texts.length = 0) && decide (it.rub = 0) && decide (2 ≤ it.opts.length) && permB it.choices it.opts.length else fitsB it
theorem keyR1 (n : Nat) (it : It) (hn : it.Fit n) (hm : it.Fit 9223372036854775806) (hk : it.kind = 1) : (ev Tryz.prog tab (n + 3)).callA 63 [it.pv] = some [.val (.bool (keyR it))] := by
  obtain ⟨id, ver, kind, stem, opts, choices, val, tol, texts, pts, cont, fam, set, words, secs, assets, rub⟩ := it
  obtain ⟨n1, n2, n3, n4, n5, n6, n7, n8⟩ := hn
  obtain ⟨m1, m2, m3, m4, m5, m6, m7, m8⟩ := hm
  simp only at n1 n2 n3 n4 n5 n6 n7 n8 m1 m2 m3 m4 m5 m6 m7 m8
  have w := within_r (n + 1)
  have wr := rising_r n choices 0 (opts.length - 1) (by omega) (by omega)
  have wp := permutation_r (n + 1) choices opts.length (by omega) (by omega)
  have hq : ∀ z : ByteArray, strP z = .val (.string z) := fun _ => rfl
  have hw : IntKind.i64.wrap ((opts.length : Int) - 1) = opts.length - 1 := wrap_i64 (by omega) (by omega)
  simp only [intP] at w wr wp
  rw [callA_fn rfl Tryz.func63 rfl rfl rfl]
  simp only at hk
  subst hk
  simp [-frame, Tryz.f63, It.pv, w, wr, wp, hw]
  repeat' ((first | refine test_cases ?_ ?_ | refine cond_cases ?_ ?_) <;> intro h <;> (try simp only [Bool.not_eq_true', Bool.not_eq_false', decide_eq_true_eq, decide_eq_false_iff_not] at h) <;> simp [-frame, h, w, wr, wp, hw])
  all_goals simp_all [fitsB, keyB, keyR, chosenB]
  all_goals (try (intros; omega))
theorem keyR2 (n : Nat) (it : It) (hn : it.Fit n) (hm : it.Fit 9223372036854775806) (hk : it.kind = 2) : (ev Tryz.prog tab (n + 3)).callA 63 [it.pv] = some [.val (.bool (keyR it))] := by
  obtain ⟨id, ver, kind, stem, opts, choices, val, tol, texts, pts, cont, fam, set, words, secs, assets, rub⟩ := it
  obtain ⟨n1, n2, n3, n4, n5, n6, n7, n8⟩ := hn
  obtain ⟨m1, m2, m3, m4, m5, m6, m7, m8⟩ := hm
  simp only at n1 n2 n3 n4 n5 n6 n7 n8 m1 m2 m3 m4 m5 m6 m7 m8
  have w := within_r (n + 1)
  have wr := rising_r n choices 0 (opts.length - 1) (by omega) (by omega)
  have wp := permutation_r (n + 1) choices opts.length (by omega) (by omega)
  have hq : ∀ z : ByteArray, strP z = .val (.string z) := fun _ => rfl
  have hw : IntKind.i64.wrap ((opts.length : Int) - 1) = opts.length - 1 := wrap_i64 (by omega) (by omega)
  simp only [intP] at w wr wp
  rw [callA_fn rfl Tryz.func63 rfl rfl rfl]
  simp only at hk
  subst hk
  simp [-frame, Tryz.f63, It.pv, w, wr, wp, hw]
  repeat' ((first | refine test_cases ?_ ?_ | refine cond_cases ?_ ?_) <;> intro h <;> (try simp only [Bool.not_eq_true', Bool.not_eq_false', decide_eq_true_eq, decide_eq_false_iff_not] at h) <;> simp [-frame, h, w, wr, wp, hw])
  all_goals simp_all [fitsB, keyB, keyR, chosenB]
  all_goals (try (intros; omega))
theorem keyR3 (n : Nat) (it : It) (hn : it.Fit n) (hm : it.Fit 9223372036854775806) (hk : it.kind = 3) : (ev Tryz.prog tab (n + 3)).callA 63 [it.pv] = some [.val (.bool (keyR it))] := by
  obtain ⟨id, ver, kind, stem, opts, choices, val, tol, texts, pts, cont, fam, set, words, secs, assets, rub⟩ := it
  obtain ⟨n1, n2, n3, n4, n5, n6, n7, n8⟩ := hn
  obtain ⟨m1, m2, m3, m4, m5, m6, m7, m8⟩ := hm
  simp only at n1 n2 n3 n4 n5 n6 n7 n8 m1 m2 m3 m4 m5 m6 m7 m8
  have w := within_r (n + 1)
  have wr := rising_r n choices 0 (opts.length - 1) (by omega) (by omega)
  have wp := permutation_r (n + 1) choices opts.length (by omega) (by omega)
  have hq : ∀ z : ByteArray, strP z = .val (.string z) := fun _ => rfl
  have hw : IntKind.i64.wrap ((opts.length : Int) - 1) = opts.length - 1 := wrap_i64 (by omega) (by omega)
  simp only [intP] at w wr wp
  rw [callA_fn rfl Tryz.func63 rfl rfl rfl]
  simp only at hk
  subst hk
  simp [-frame, Tryz.f63, It.pv, w, wr, wp, hw]
  repeat' ((first | refine test_cases ?_ ?_ | refine cond_cases ?_ ?_) <;> intro h <;> (try simp only [Bool.not_eq_true', Bool.not_eq_false', decide_eq_true_eq, decide_eq_false_iff_not] at h) <;> simp [-frame, h, w, wr, wp, hw])
  all_goals simp_all [fitsB, keyB, keyR, chosenB]
  all_goals (try (intros; omega))
theorem keyR4 (n : Nat) (it : It) (hn : it.Fit n) (hm : it.Fit 9223372036854775806) (hk : it.kind = 4) : (ev Tryz.prog tab (n + 3)).callA 63 [it.pv] = some [.val (.bool (keyR it))] := by
  obtain ⟨id, ver, kind, stem, opts, choices, val, tol, texts, pts, cont, fam, set, words, secs, assets, rub⟩ := it
  obtain ⟨n1, n2, n3, n4, n5, n6, n7, n8⟩ := hn
  obtain ⟨m1, m2, m3, m4, m5, m6, m7, m8⟩ := hm
  simp only at n1 n2 n3 n4 n5 n6 n7 n8 m1 m2 m3 m4 m5 m6 m7 m8
  have w := within_r (n + 1)
  have wr := rising_r n choices 0 (opts.length - 1) (by omega) (by omega)
  have wp := permutation_r (n + 1) choices opts.length (by omega) (by omega)
  have hq : ∀ z : ByteArray, strP z = .val (.string z) := fun _ => rfl
  have hw : IntKind.i64.wrap ((opts.length : Int) - 1) = opts.length - 1 := wrap_i64 (by omega) (by omega)
  simp only [intP] at w wr wp
  rw [callA_fn rfl Tryz.func63 rfl rfl rfl]
  simp only at hk
  subst hk
  simp [-frame, Tryz.f63, It.pv, w, wr, wp, hw]
  repeat' ((first | refine test_cases ?_ ?_ | refine cond_cases ?_ ?_) <;> intro h <;> (try simp only [Bool.not_eq_true', Bool.not_eq_false', decide_eq_true_eq, decide_eq_false_iff_not] at h) <;> simp [-frame, h, w, wr, wp, hw])
  all_goals simp_all [fitsB, keyB, keyR, chosenB]
  all_goals (try (intros; omega))
theorem keyR6 (n : Nat) (it : It) (hn : it.Fit n) (hm : it.Fit 9223372036854775806) (hk : it.kind = 6) : (ev Tryz.prog tab (n + 3)).callA 63 [it.pv] = some [.val (.bool (keyR it))] := by
  obtain ⟨id, ver, kind, stem, opts, choices, val, tol, texts, pts, cont, fam, set, words, secs, assets, rub⟩ := it
  obtain ⟨n1, n2, n3, n4, n5, n6, n7, n8⟩ := hn
  obtain ⟨m1, m2, m3, m4, m5, m6, m7, m8⟩ := hm
  simp only at n1 n2 n3 n4 n5 n6 n7 n8 m1 m2 m3 m4 m5 m6 m7 m8
  have w := within_r (n + 1)
  have wr := rising_r n choices 0 (opts.length - 1) (by omega) (by omega)
  have wp := permutation_r (n + 1) choices opts.length (by omega) (by omega)
  have hq : ∀ z : ByteArray, strP z = .val (.string z) := fun _ => rfl
  have hw : IntKind.i64.wrap ((opts.length : Int) - 1) = opts.length - 1 := wrap_i64 (by omega) (by omega)
  simp only [intP] at w wr wp
  rw [callA_fn rfl Tryz.func63 rfl rfl rfl]
  simp only at hk
  subst hk
  simp [-frame, Tryz.f63, It.pv, w, wr, wp, hw]
  repeat' ((first | refine test_cases ?_ ?_ | refine cond_cases ?_ ?_) <;> intro h <;> (try simp only [Bool.not_eq_true', Bool.not_eq_false', decide_eq_true_eq, decide_eq_false_iff_not] at h) <;> simp [-frame, h, w, wr, wp, hw])
  all_goals simp_all [fitsB, keyB, keyR, chosenB]
  all_goals (try (intros; omega))
end Go.Proofs.YtlhjljplfmmoaaaGreatDoor.Ev
