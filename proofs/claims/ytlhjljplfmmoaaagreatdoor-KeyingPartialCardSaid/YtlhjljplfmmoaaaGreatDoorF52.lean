/- keying.Score at each kind: what it computes. -/
import Derived.Test.YtlhjljplfmmoaaaGreatDoorF51
import Derived.Test.YtlhjljplfmmoaaaGreatDoorF31
namespace Go.Proofs.YtlhjljplfmmoaaaGreatDoor.Ev
open Go
set_option linter.unusedSimpArgs false
set_option linter.unusedVariables false
set_option maxRecDepth 10000
set_option maxHeartbeats 4000000
theorem scoreK1 (n : Nat) (it : It) (a : Ans) (R : Room n it a) (h : kvalidI it a = 0) (ho : a.om = false) (hk : it.kind = 1) : (ev Tryz.prog tab (n + 22)).callA 8 [it.pv, a.pv] = some [intP (scoreN it a), intP (scoreE it a)] := by
  have w := kvalid_ev n it a R.hn R.hm R.hz R.ha R.han R.hn10
  obtain ⟨hv, hid, hbad, hinn⟩ := bad_not h
  have hkey := key_of hv
  have hpts := pts_range hv
  have hno := valid_opts hv
  have hsN : scoreN it a = ptsI it a := by unfold scoreN; rw [if_pos h, if_neg (by omega), if_neg (by simp [ho])]
  have hsE : scoreE it a = 0 := by unfold scoreE; rw [if_pos h, if_neg (by omega)]
  rw [hsN, hsE]
  rw [h] at w
  unfold keyB at hkey
  have hinn := hinn.resolve_left (by rw [ho]; simp)
  unfold inner at hinn
  rw [hk] at hkey hinn
  unfold ptsI
  rw [hk]
  simp at hkey hinn
  obtain ⟨c1, c2⟩ := choices_ok hinn
  simp [rightB] at c2
  obtain ⟨x, hx⟩ : ∃ x, a.choices = [x] := List.length_eq_one_iff.1 c2
  obtain ⟨y, hy⟩ : ∃ y, it.choices = [y] := List.length_eq_one_iff.1 hkey.1.2
  have ws := whole_ev2 (n + 20) it (decide (x = y))
  rw [hx, hy]
  obtain ⟨id, ver, kind, stem, opts, choices, val, tol, texts, pts, cont, fam, set, words, secs, assets, rub⟩ := it
  obtain ⟨aid, ach, av, at', om⟩ := a
  simp only at hk ho hx hy
  subst hk
  subst ho
  subst hx
  subst hy
  simp only [It.pv, Ans.pv, intP, strP, List.map_cons, List.map_nil] at w ws
  rw [callA_fn rfl Tryz.func8 rfl rfl rfl]
  by_cases hxy : x = y
  · subst hxy
    simp at ws
    simp [-frame, Tryz.f8, It.pv, Ans.pv, intP, strP, w, ws]
    refine (drawK_of (by kernel_rfl)).trans ?_
    simp [-frame, evOpD, callD, argRows, w, ws]
  · simp [hxy] at ws
    simp [-frame, Tryz.f8, It.pv, Ans.pv, intP, strP, w, ws, hxy]
    refine (drawK_of (by kernel_rfl)).trans ?_
    simp [-frame, evOpD, callD, argRows, w, ws, hxy]
theorem scoreK2 (n : Nat) (it : It) (a : Ans) (R : Room n it a) (h : kvalidI it a = 0) (ho : a.om = false) (hk : it.kind = 2) : (ev Tryz.prog tab (n + 22)).callA 8 [it.pv, a.pv] = some [intP (scoreN it a), intP (scoreE it a)] := by
  have w := kvalid_ev n it a R.hn R.hm R.hz R.ha R.han R.hn10
  obtain ⟨hv, hid, hbad, hinn⟩ := bad_not h
  have hkey := key_of hv
  have hpts := pts_range hv
  have hno := valid_opts hv
  have hsN : scoreN it a = ptsI it a := by unfold scoreN; rw [if_pos h, if_neg (by omega), if_neg (by simp [ho])]
  have hsE : scoreE it a = 0 := by unfold scoreE; rw [if_pos h, if_neg (by omega)]
  rw [hsN, hsE]
  rw [h] at w
  unfold keyB at hkey
  have hinn := hinn.resolve_left (by rw [ho]; simp)
  unfold inner at hinn
  rw [hk] at hkey hinn
  unfold ptsI
  rw [hk]
  simp at hkey hinn
  obtain ⟨c1, c2⟩ := choices_ok hinn
  have c3 := up_length c1 (by simpa [rightB] using c2)
  obtain ⟨c4, c5⟩ := rise_up hkey.2
  have c6 := up_length c4 c5
  have ws := several_ev (n + 18) it a.choices (by omega) (by have := R.hn10; omega) (by omega) (by have := R.hn10; omega) (by omega) (by omega) (by omega)
  obtain ⟨id, ver, kind, stem, opts, choices, val, tol, texts, pts, cont, fam, set, words, secs, assets, rub⟩ := it
  obtain ⟨aid, ach, av, at', om⟩ := a
  simp only at hk ho hkey hinn hpts hno ws
  subst hk
  subst ho
  simp only [It.pv, Ans.pv, intP, strP] at w ws
  rw [callA_fn rfl Tryz.func8 rfl rfl rfl]
  simp [-frame, Tryz.f8, It.pv, Ans.pv, intP, strP, w, ws]
theorem scoreK3 (n : Nat) (it : It) (a : Ans) (R : Room n it a) (h : kvalidI it a = 0) (ho : a.om = false) (hk : it.kind = 3) : (ev Tryz.prog tab (n + 22)).callA 8 [it.pv, a.pv] = some [intP (scoreN it a), intP (scoreE it a)] := by
  have w := kvalid_ev n it a R.hn R.hm R.hz R.ha R.han R.hn10
  obtain ⟨hv, hid, hbad, hinn⟩ := bad_not h
  have hkey := key_of hv
  have hpts := pts_range hv
  have hno := valid_opts hv
  have hsN : scoreN it a = ptsI it a := by unfold scoreN; rw [if_pos h, if_neg (by omega), if_neg (by simp [ho])]
  have hsE : scoreE it a = 0 := by unfold scoreE; rw [if_pos h, if_neg (by omega)]
  rw [hsN, hsE]
  rw [h] at w
  unfold keyB at hkey
  have hinn := hinn.resolve_left (by rw [ho]; simp)
  unfold inner at hinn
  rw [hk] at hkey hinn
  unfold ptsI
  rw [hk]
  simp at hkey hinn
  obtain ⟨c1, c2⟩ := choices_ok hinn
  simp [rightB] at c2
  have c3 : 2 ≤ a.choices.length := by omega
  have c4 : 0 < ordA a.choices := by
    obtain ⟨x, y, t, ht⟩ : ∃ x y t, a.choices = x :: y :: t := by
      match hx : a.choices with
      | [] => rw [hx] at c3; simp at c3
      | [x] => rw [hx] at c3; simp at c3
      | x :: y :: t => exact ⟨x, y, t, rfl⟩
    rw [ht]
    simp [ordA]
    omega
  have ws := order_ev (n + 18) it a.choices (by omega) (by have := R.hn10; omega) (by omega) (by have := R.hn10; omega) (by omega) (by omega) c4
  obtain ⟨id, ver, kind, stem, opts, choices, val, tol, texts, pts, cont, fam, set, words, secs, assets, rub⟩ := it
  obtain ⟨aid, ach, av, at', om⟩ := a
  simp only at hk ho hkey hinn hpts hno ws
  subst hk
  subst ho
  simp only [It.pv, Ans.pv, intP, strP] at w ws
  rw [callA_fn rfl Tryz.func8 rfl rfl rfl]
  simp [-frame, Tryz.f8, It.pv, Ans.pv, intP, strP, w, ws]
theorem scoreK4 (n : Nat) (it : It) (a : Ans) (R : Room n it a) (h : kvalidI it a = 0) (ho : a.om = false) (hk : it.kind = 4) : (ev Tryz.prog tab (n + 22)).callA 8 [it.pv, a.pv] = some [intP (scoreN it a), intP (scoreE it a)] := by
  have w := kvalid_ev n it a R.hn R.hm R.hz R.ha R.han R.hn10
  obtain ⟨hv, hid, hbad, hinn⟩ := bad_not h
  have hkey := key_of hv
  have hpts := pts_range hv
  have hno := valid_opts hv
  have hsN : scoreN it a = ptsI it a := by unfold scoreN; rw [if_pos h, if_neg (by omega), if_neg (by simp [ho])]
  have hsE : scoreE it a = 0 := by unfold scoreE; rw [if_pos h, if_neg (by omega)]
  rw [hsN, hsE]
  rw [h] at w
  unfold keyB at hkey
  have hinn := hinn.resolve_left (by rw [ho]; simp)
  unfold inner at hinn
  rw [hk] at hkey hinn
  unfold ptsI
  rw [hk]
  simp [withinB] at hkey hinn
  have ws := whole_ev2 (n + 20) it (decide (a.value - it.val ≤ it.tol ∧ it.val - a.value ≤ it.tol))
  have hw1 : IntKind.i64.wrap (a.value - it.val) = a.value - it.val := wrap_i64 (by omega) (by omega)
  have hw2 : IntKind.i64.wrap (it.val - a.value) = it.val - a.value := wrap_i64 (by omega) (by omega)
  obtain ⟨id, ver, kind, stem, opts, choices, val, tol, texts, pts, cont, fam, set, words, secs, assets, rub⟩ := it
  obtain ⟨aid, ach, av, at', om⟩ := a
  simp only at hk ho hkey hinn hw1 hw2
  subst hk
  subst ho
  simp only [It.pv, Ans.pv, intP, strP] at w ws
  rw [callA_fn rfl Tryz.func8 rfl rfl rfl]
  by_cases g1 : av - val ≤ tol
  · by_cases g2 : val - av ≤ tol
    · have e : decide (av - val ≤ tol ∧ val - av ≤ tol) = true := by simp [g1, g2]
      rw [e] at ws
      by_cases g3 : av - val < val - av
      · simp [-frame, Tryz.f8, It.pv, Ans.pv, intP, strP, w, hw1, hw2, g1, g2, g3, ws]
      · simp [-frame, Tryz.f8, It.pv, Ans.pv, intP, strP, w, hw1, hw2, g1, g2, g3, ws]
    · have e : decide (av - val ≤ tol ∧ val - av ≤ tol) = false := by simp [g2]
      rw [e] at ws
      have g3 : av - val < val - av := by omega
      simp [-frame, Tryz.f8, It.pv, Ans.pv, intP, strP, w, hw1, hw2, g1, g2, g3, ws]
  · have e : decide (av - val ≤ tol ∧ val - av ≤ tol) = false := by simp [g1]
    rw [e] at ws
    have g3 : ¬ av - val < val - av := by omega
    simp [-frame, Tryz.f8, It.pv, Ans.pv, intP, strP, w, hw1, hw2, g1, g3, ws]
theorem scoreK5 (n : Nat) (it : It) (a : Ans) (R : Room n it a) (h : kvalidI it a = 0) (ho : a.om = false) (hk : it.kind = 5) : (ev Tryz.prog tab (n + 22)).callA 8 [it.pv, a.pv] = some [intP (scoreN it a), intP (scoreE it a)] := by
  have w := kvalid_ev n it a R.hn R.hm R.hz R.ha R.han R.hn10
  obtain ⟨hv, hid, hbad, hinn⟩ := bad_not h
  have hkey := key_of hv
  have hpts := pts_range hv
  have hno := valid_opts hv
  have hsN : scoreN it a = ptsI it a := by unfold scoreN; rw [if_pos h, if_neg (by omega), if_neg (by simp [ho])]
  have hsE : scoreE it a = 0 := by unfold scoreE; rw [if_pos h, if_neg (by omega)]
  rw [hsN, hsE]
  rw [h] at w
  unfold keyB at hkey
  have hinn := hinn.resolve_left (by rw [ho]; simp)
  unfold inner at hinn
  rw [hk] at hkey hinn
  unfold ptsI
  rw [hk]
  have wn := normal_ev (n + 17) a.text _ rfl R.hat (by have := R.hatn; omega)
  have wc := containsS_ev (n + 19) it.texts ⟨(Kn.normal a.text.data.toList).toArray⟩ R.hm.texts (by have := R.hn.texts; omega)
  have ws := whole_ev2 (n + 20) it (it.texts.any (eqS ⟨(Kn.normal a.text.data.toList).toArray⟩))
  obtain ⟨id, ver, kind, stem, opts, choices, val, tol, texts, pts, cont, fam, set, words, secs, assets, rub⟩ := it
  obtain ⟨aid, ach, av, at', om⟩ := a
  simp only at hk ho wn wc ws
  subst hk
  subst ho
  simp only [It.pv, Ans.pv, intP, strP] at w wn wc ws
  generalize Kn.normal at'.data.toList = N at *
  rw [callA_fn rfl Tryz.func8 rfl rfl rfl]
  simp [-frame, Tryz.f8, It.pv, Ans.pv, intP, strP, w, wn, wc, ws]
  refine (drawK_of (by kernel_rfl)).trans ?_
  simp [-frame, evOpD, callD, argRows, w, wn, wc, ws]
end Go.Proofs.YtlhjljplfmmoaaaGreatDoor.Ev
