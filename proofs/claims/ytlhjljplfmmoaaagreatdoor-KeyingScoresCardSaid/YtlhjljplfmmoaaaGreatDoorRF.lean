/- The reference's Score and Right are the program's; the law KeyingScores, called. -/
import Derived.Test.YtlhjljplfmmoaaaGreatDoorRC
import Derived.Test.YtlhjljplfmmoaaaGreatDoorRE
import Derived.Test.YtlhjljplfmmoaaaGreatDoorFS
import Derived.Test.YtlhjljplfmmoaaaGreatDoorRow
import Derived.Test.YtlhjljplfmmoaaaGreatDoorAw
namespace Go.Proofs.YtlhjljplfmmoaaaGreatDoor.Ev
open Go
set_option linter.unusedSimpArgs false
set_option linter.unusedVariables false
set_option maxRecDepth 10000
set_option maxHeartbeats 4000000
theorem kr0 (n : Nat) (it : It) (a : Ans) (hv : ¬ validI it = 0) (hn : it.Fit n) (hm : it.Fit 9223372036854775806) (h24 : 24 ≤ n) : (ev Tryz.prog tab (n + 7)).callA 13 [it.pv, a.pv] = some [intP (kvalidI it a)] := by
  have w := valid_r n it hn hm h24
  unfold kvalidI
  rw [if_neg hv]
  generalize hV : validI it = V at *
  obtain ⟨id, ver, kind, stem, opts, choices, val, tol, texts, pts, cont, fam, set, words, secs, assets, rub⟩ := it
  obtain ⟨aid, ach, av, at', om⟩ := a
  simp only [It.pv, intP, strP] at w
  rw [callA_fn rfl Tryz.func13 rfl rfl rfl]
  simp [-frame, Tryz.f13, It.pv, Ans.pv, intP, strP, w, hv]
theorem kvalid_r (n : Nat) (it : It) (a : Ans) (hn : it.Fit n) (hm : it.Fit 9223372036854775806) (ha : a.choices.length ≤ 9223372036854775806) (han : a.choices.length ≤ n) (h24 : 24 ≤ n) : (ev Tryz.prog tab (n + 7)).callA 13 [it.pv, a.pv] = some [intP (kvalidI it a)] := by
  by_cases hv : validI it = 0
  · have hk := (valid_kind hv).1
    have h6 : it.kind = 1 ∨ it.kind = 2 ∨ it.kind = 3 ∨ it.kind = 4 ∨ it.kind = 5 ∨ it.kind = 6 := by omega
    rcases h6 with h | h | h | h | h | h
    · exact kr1 n it a h hn hm ha han h24
    · exact kr2 n it a h hn hm ha han h24
    · exact kr3 n it a h hn hm ha han h24
    · exact kr4 n it a h hn hm ha han h24
    · exact kr5 n it a h hn hm ha han h24
    · exact kr6 n it a h hn hm ha han h24
  · exact kr0 n it a hv hn hm h24
theorem yes_r (n : Nat) (it : It) (b : Bool) : (ev Tryz.prog tab (n + 1)).callA 24 [it.pv, .val (.bool b)] = some [intP (if b = true then it.pts else 0)] := by
  obtain ⟨id, ver, kind, stem, opts, choices, val, tol, texts, pts, cont, fam, set, words, secs, assets, rub⟩ := it
  rw [callA_fn rfl Tryz.func24 rfl rfl rfl]
  cases b <;> simp [-frame, Tryz.f24, It.pv, intP, strP]
structure RoomR (n : Nat) (it : It) (a : Ans) : Prop where
  hn : it.Fit n
  hm : it.Fit 9223372036854775806
  ha : a.choices.length ≤ 9223372036854775806
  han : a.choices.length ≤ n
  hat : a.text.size ≤ 140737488355328
  hatn : a.text.size ≤ n
  h24 : 24 ≤ n
theorem scR0 (n : Nat) (it : It) (a : Ans) (R : RoomR n it a) (h : ¬ kvalidI it a = 0) : (ev Tryz.prog tab (n + 8)).callA 9 [it.pv, a.pv] = some [intP (scoreN it a), intP (scoreE it a)] := by
  have w := kvalid_r n it a R.hn R.hm R.ha R.han R.h24
  unfold scoreN scoreE
  rw [if_neg h, if_neg h]
  generalize kvalidI it a = V at *
  obtain ⟨id, ver, kind, stem, opts, choices, val, tol, texts, pts, cont, fam, set, words, secs, assets, rub⟩ := it
  obtain ⟨aid, ach, av, at', om⟩ := a
  simp only [It.pv, Ans.pv, intP, strP] at w
  rw [callA_fn rfl Tryz.func9 rfl rfl rfl]
  simp [-frame, Tryz.f9, It.pv, Ans.pv, intP, strP, w, h]
theorem scR6 (n : Nat) (it : It) (a : Ans) (R : RoomR n it a) (h : kvalidI it a = 0) (hk : it.kind = 6) : (ev Tryz.prog tab (n + 8)).callA 9 [it.pv, a.pv] = some [intP (scoreN it a), intP (scoreE it a)] := by
  have w := kvalid_r n it a R.hn R.hm R.ha R.han R.h24
  unfold scoreN scoreE
  rw [if_pos h, if_pos h, if_pos hk, if_pos hk]
  rw [h] at w
  obtain ⟨id, ver, kind, stem, opts, choices, val, tol, texts, pts, cont, fam, set, words, secs, assets, rub⟩ := it
  obtain ⟨aid, ach, av, at', om⟩ := a
  simp only at hk
  subst hk
  simp only [It.pv, Ans.pv, intP, strP] at w
  rw [callA_fn rfl Tryz.func9 rfl rfl rfl]
  simp [-frame, Tryz.f9, It.pv, Ans.pv, intP, strP, w]
theorem scRO (n : Nat) (it : It) (a : Ans) (R : RoomR n it a) (h : kvalidI it a = 0) (hk : ¬ it.kind = 6) (ho : a.om = true) : (ev Tryz.prog tab (n + 8)).callA 9 [it.pv, a.pv] = some [intP (scoreN it a), intP (scoreE it a)] := by
  have w := kvalid_r n it a R.hn R.hm R.ha R.han R.h24
  unfold scoreN scoreE
  rw [if_pos h, if_pos h, if_neg hk, if_neg hk, if_pos ho]
  rw [h] at w
  obtain ⟨id, ver, kind, stem, opts, choices, val, tol, texts, pts, cont, fam, set, words, secs, assets, rub⟩ := it
  obtain ⟨aid, ach, av, at', om⟩ := a
  simp only at hk ho
  subst ho
  simp only [It.pv, Ans.pv, intP, strP] at w
  rw [callA_fn rfl Tryz.func9 rfl rfl rfl]
  simp [-frame, Tryz.f9, It.pv, Ans.pv, intP, strP, w, hk]
theorem scRK1 (n : Nat) (it : It) (a : Ans) (R : RoomR n it a) (h : kvalidI it a = 0) (ho : a.om = false) (hk : it.kind = 1) : (ev Tryz.prog tab (n + 8)).callA 9 [it.pv, a.pv] = some [intP (scoreN it a), intP (scoreE it a)] := by
  have w := kvalid_r n it a R.hn R.hm R.ha R.han R.h24
  obtain ⟨hv, hid, hbad, hinn⟩ := bad_not h
  have hkey := key_of hv
  have hpts := pts_range hv
  have hno := valid_opts hv
  have hsN : scoreN it a = ptsI it a := by unfold scoreN; rw [if_pos h, if_neg (by omega), if_neg (by simp [ho])]
  have hsE : scoreE it a = 0 := by unfold scoreE; rw [if_pos h, if_neg (by omega)]
  rw [hsN, hsE]
  rw [h] at w
  unfold keyB at hkey
  have hinn := hinn.resolve_left (by rw [ho]; simp)
  unfold inner at hinn
  rw [hk] at hkey hinn
  unfold ptsI
  rw [hk]
  simp at hkey hinn
  obtain ⟨c1, c2⟩ := choices_ok hinn
  simp [rightB] at c2
  obtain ⟨x, hx⟩ : ∃ x, a.choices = [x] := List.length_eq_one_iff.1 c2
  obtain ⟨y, hy⟩ : ∃ y, it.choices = [y] := List.length_eq_one_iff.1 hkey.1.2
  have ws := yes_r (n + 6) it (decide (x = y))
  rw [hx, hy]
  obtain ⟨id, ver, kind, stem, opts, choices, val, tol, texts, pts, cont, fam, set, words, secs, assets, rub⟩ := it
  obtain ⟨aid, ach, av, at', om⟩ := a
  simp only at hk ho hx hy
  subst hk
  subst ho
  subst hx
  subst hy
  simp only [It.pv, Ans.pv, intP, strP, List.map_cons, List.map_nil] at w ws
  rw [callA_fn rfl Tryz.func9 rfl rfl rfl]
  by_cases hxy : x = y
  · subst hxy
    simp at ws
    simp [-frame, Tryz.f9, It.pv, Ans.pv, intP, strP, w, ws]
    refine (drawK_of (by kernel_rfl)).trans ?_
    simp [-frame, evOpD, callD, argRows, w, ws]
  · simp [hxy] at ws
    simp [-frame, Tryz.f9, It.pv, Ans.pv, intP, strP, w, ws, hxy]
    refine (drawK_of (by kernel_rfl)).trans ?_
    simp [-frame, evOpD, callD, argRows, w, ws, hxy]
theorem scRK2 (n : Nat) (it : It) (a : Ans) (R : RoomR n it a) (h : kvalidI it a = 0) (ho : a.om = false) (hk : it.kind = 2) : (ev Tryz.prog tab (n + 8)).callA 9 [it.pv, a.pv] = some [intP (scoreN it a), intP (scoreE it a)] := by
  have w := kvalid_r n it a R.hn R.hm R.ha R.han R.h24
  obtain ⟨hv, hid, hbad, hinn⟩ := bad_not h
  have hkey := key_of hv
  have hpts := pts_range hv
  have hno := valid_opts hv
  have hsN : scoreN it a = ptsI it a := by unfold scoreN; rw [if_pos h, if_neg (by omega), if_neg (by simp [ho])]
  have hsE : scoreE it a = 0 := by unfold scoreE; rw [if_pos h, if_neg (by omega)]
  rw [hsN, hsE]
  rw [h] at w
  unfold keyB at hkey
  have hinn := hinn.resolve_left (by rw [ho]; simp)
  unfold inner at hinn
  rw [hk] at hkey hinn
  unfold ptsI
  rw [hk]
  simp at hkey hinn
  obtain ⟨c1, c2⟩ := choices_ok hinn
  have c3 := up_length c1 (by simpa [rightB] using c2)
  obtain ⟨c4, c5⟩ := rise_up hkey.2
  have c6 := up_length c4 c5
  have ws := multi_r (n + 5) it a.choices (by omega) (by have := R.h24; omega) (by omega) (by have := R.h24; omega) (by omega) (by omega) (by omega) (up_nodup c5)
  obtain ⟨id, ver, kind, stem, opts, choices, val, tol, texts, pts, cont, fam, set, words, secs, assets, rub⟩ := it
  obtain ⟨aid, ach, av, at', om⟩ := a
  simp only at hk ho hkey hinn hpts hno ws
  subst hk
  subst ho
  simp only [It.pv, Ans.pv, intP, strP] at w ws
  rw [callA_fn rfl Tryz.func9 rfl rfl rfl]
  simp [-frame, Tryz.f9, It.pv, Ans.pv, intP, strP, w, ws]
theorem scRK3 (n : Nat) (it : It) (a : Ans) (R : RoomR n it a) (h : kvalidI it a = 0) (ho : a.om = false) (hk : it.kind = 3) : (ev Tryz.prog tab (n + 8)).callA 9 [it.pv, a.pv] = some [intP (scoreN it a), intP (scoreE it a)] := by
  have w := kvalid_r n it a R.hn R.hm R.ha R.han R.h24
  obtain ⟨hv, hid, hbad, hinn⟩ := bad_not h
  have hkey := key_of hv
  have hpts := pts_range hv
  have hno := valid_opts hv
  have hsN : scoreN it a = ptsI it a := by unfold scoreN; rw [if_pos h, if_neg (by omega), if_neg (by simp [ho])]
  have hsE : scoreE it a = 0 := by unfold scoreE; rw [if_pos h, if_neg (by omega)]
  rw [hsN, hsE]
  rw [h] at w
  unfold keyB at hkey
  have hinn := hinn.resolve_left (by rw [ho]; simp)
  unfold inner at hinn
  rw [hk] at hkey hinn
  unfold ptsI
  rw [hk]
  simp at hkey hinn
  obtain ⟨c1, c2⟩ := choices_ok hinn
  simp [rightB] at c2
  have c3 : 2 ≤ a.choices.length := by omega
  have c4 : 0 < ordA a.choices := by
    obtain ⟨x, y, t, ht⟩ : ∃ x y t, a.choices = x :: y :: t := by
      match hx : a.choices with
      | [] => rw [hx] at c3; simp at c3
      | [x] => rw [hx] at c3; simp at c3
      | x :: y :: t => exact ⟨x, y, t, rfl⟩
    rw [ht]
    simp [ordA]
    omega
  have ws := order_r (n + 5) it a.choices (by omega) (by have := R.h24; omega) (by omega) (by have := R.h24; omega) (by omega) (by omega) c4
  obtain ⟨id, ver, kind, stem, opts, choices, val, tol, texts, pts, cont, fam, set, words, secs, assets, rub⟩ := it
  obtain ⟨aid, ach, av, at', om⟩ := a
  simp only at hk ho hkey hinn hpts hno ws
  subst hk
  subst ho
  simp only [It.pv, Ans.pv, intP, strP] at w ws
  rw [callA_fn rfl Tryz.func9 rfl rfl rfl]
  simp [-frame, Tryz.f9, It.pv, Ans.pv, intP, strP, w, ws]
theorem scRK4 (n : Nat) (it : It) (a : Ans) (R : RoomR n it a) (h : kvalidI it a = 0) (ho : a.om = false) (hk : it.kind = 4) : (ev Tryz.prog tab (n + 8)).callA 9 [it.pv, a.pv] = some [intP (scoreN it a), intP (scoreE it a)] := by
  have w := kvalid_r n it a R.hn R.hm R.ha R.han R.h24
  obtain ⟨hv, hid, hbad, hinn⟩ := bad_not h
  have hkey := key_of hv
  have hpts := pts_range hv
  have hno := valid_opts hv
  have hsN : scoreN it a = ptsI it a := by unfold scoreN; rw [if_pos h, if_neg (by omega), if_neg (by simp [ho])]
  have hsE : scoreE it a = 0 := by unfold scoreE; rw [if_pos h, if_neg (by omega)]
  rw [hsN, hsE]
  rw [h] at w
  unfold keyB at hkey
  have hinn := hinn.resolve_left (by rw [ho]; simp)
  unfold inner at hinn
  rw [hk] at hkey hinn
  unfold ptsI
  rw [hk]
  simp [withinB] at hkey hinn
  have ws := yes_r (n + 6) it (decide (a.value - it.val ≤ it.tol ∧ it.val - a.value ≤ it.tol))
  have hw1 : IntKind.i64.wrap (a.value - it.val) = a.value - it.val := wrap_i64 (by omega) (by omega)
  have hw2 : IntKind.i64.wrap (it.val - a.value) = it.val - a.value := wrap_i64 (by omega) (by omega)
  obtain ⟨id, ver, kind, stem, opts, choices, val, tol, texts, pts, cont, fam, set, words, secs, assets, rub⟩ := it
  obtain ⟨aid, ach, av, at', om⟩ := a
  simp only at hk ho hkey hinn hw1 hw2
  subst hk
  subst ho
  simp only [It.pv, Ans.pv, intP, strP] at w ws
  rw [callA_fn rfl Tryz.func9 rfl rfl rfl]
  by_cases g1 : av - val ≤ tol
  · by_cases g2 : val - av ≤ tol
    · have e : decide (av - val ≤ tol ∧ val - av ≤ tol) = true := by simp [g1, g2]
      rw [e] at ws
      simp [-frame, Tryz.f9, It.pv, Ans.pv, intP, strP, w, hw1, hw2, g1, g2, ws]
    · have e : decide (av - val ≤ tol ∧ val - av ≤ tol) = false := by simp [g2]
      rw [e] at ws
      simp [-frame, Tryz.f9, It.pv, Ans.pv, intP, strP, w, hw1, hw2, g1, g2, ws]
  · have e : decide (av - val ≤ tol ∧ val - av ≤ tol) = false := by simp [g1]
    rw [e] at ws
    simp [-frame, Tryz.f9, It.pv, Ans.pv, intP, strP, w, hw1, hw2, g1, ws]
theorem scRK5 (n : Nat) (it : It) (a : Ans) (R : RoomR n it a) (h : kvalidI it a = 0) (ho : a.om = false) (hk : it.kind = 5) : (ev Tryz.prog tab (n + 8)).callA 9 [it.pv, a.pv] = some [intP (scoreN it a), intP (scoreE it a)] := by
  have w := kvalid_r n it a R.hn R.hm R.ha R.han R.h24
  obtain ⟨hv, hid, hbad, hinn⟩ := bad_not h
  have hkey := key_of hv
  have hpts := pts_range hv
  have hno := valid_opts hv
  have hsN : scoreN it a = ptsI it a := by unfold scoreN; rw [if_pos h, if_neg (by omega), if_neg (by simp [ho])]
  have hsE : scoreE it a = 0 := by unfold scoreE; rw [if_pos h, if_neg (by omega)]
  rw [hsN, hsE]
  rw [h] at w
  unfold keyB at hkey
  have hinn := hinn.resolve_left (by rw [ho]; simp)
  unfold inner at hinn
  rw [hk] at hkey hinn
  unfold ptsI
  rw [hk]
  have wn := normal_r (n + 6) a.text _ rfl R.hat (by have := R.hatn; omega)
  have hts := R.hn.texts
  have htm := R.hm.texts
  obtain ⟨id, ver, kind, stem, opts, choices, val, tol, texts, pts, cont, fam, set, words, secs, assets, rub⟩ := it
  obtain ⟨aid, ach, av, at', om⟩ := a
  simp only at hk ho wn hts htm
  subst hk
  subst ho
  simp only [It.pv, Ans.pv, intP, strP] at w wn
  generalize (⟨(Kn.normal at'.data.toList).toArray⟩ : ByteArray) = N at *
  rw [if_neg (by decide), if_neg (by decide), if_neg (by decide), if_neg (by decide)]
  simp only
  obtain ⟨V, hV⟩ : ∃ V, V = if texts.any (eqS N) = true then pts else 0 := ⟨_, rfl⟩
  rw [← hV]
  have hq : ∀ z : ByteArray, strP z = .val (.string z) := fun _ => rfl
  rw [callA_fn rfl Tryz.func9 rfl rfl rfl]
  simp [-frame, Tryz.f9, It.pv, Ans.pv, intP, strP, w]
  refine loop_rule (fun d st => ∃ (i : Nat) (a : List (Nat × TV)), st = { tm := frameOf 84 a, sus := [], so := [(2, .box [TV.val (.int .i64 id), TV.val (.int .i64 ver), .val (.int .i64 5), .val (.string stem), .sl (opts.map strP), .sl (choices.map intP), .val (.int .i64 val), .val (.int .i64 tol), .sl (texts.map strP), .val (.int .i64 pts), .val (.string cont), .val (.int .i64 fam), .val (.int .i64 set), .val (.int .i64 words), .val (.int .i64 secs), .sl (assets.map intP), .val (.int .i64 rub)]), (3, .box [.val (.int .i64 aid), .sl (ach.map intP), .val (.int .i64 av), .val (.string at'), .val (.bool false)])] } ∧ look a 2 = .ptr 2 0 0 ∧ look a 3 = .ptr 3 0 0 ∧ look a 70 = .sl (texts.map strP) ∧ look a 71 = .val (.int .i64 texts.length) ∧ look a 72 = .val (.int .i64 i) ∧ d = texts.length - i ∧ i ≤ texts.length ∧ V = if (texts.drop i).any (eqS N) = true then pts else 0) ?_ _ texts.length _ (by omega) ⟨0, _, rfl, by simp, by simp, by simp, by simp, by simp, rfl, by omega, by rw [List.drop_zero]; exact hV⟩
  rintro d st m ⟨i, a, rfl, h2, h3, h70, h71, h72, rfl, hi, hV⟩ ih
  by_cases hlt : i < texts.length
  · obtain ⟨z, hc⟩ : ∃ z, texts[i]? = some z := ⟨texts[i], by simp⟩
    have hw := wrap_succ hlt (show texts.length ≤ 9223372036854775807 by omega)
    have hd : decide ((i : Int) < texts.length) = true := by simp [hlt]
    rw [drop_cons hc, List.any_cons] at hV
    have he : (z.toList == N.toList) = eqS N z := by unfold eqS; exact BEq.comm
    cases hb : eqS N z with
    | true =>
      rw [hb] at hV he
      simp only [Bool.true_or, if_true] at hV
      simp [-frame, -getElem?_pos, h2, h3, h70, h71, h72, hd, hc, hlt, hw, hq, wn, he, hV]
    | false =>
      rw [hb] at hV he
      rw [Bool.false_or] at hV
      simp [-frame, -getElem?_pos, h2, h3, h70, h71, h72, hd, hc, hlt, hw, hq, wn, he]
      exact ih _ _ (by omega) ⟨i + 1, _, rfl, by simp [h2], by simp [h3], by simp [h70], by simp [h71], by simp, rfl, by omega, hV⟩
  · obtain rfl : i = texts.length := by omega
    rw [List.drop_length] at hV
    simp only [List.any_nil, Bool.false_eq_true, if_false] at hV
    simp [-frame, h2, h3, h70, h71, h72, hV]
theorem score_r (n : Nat) (it : It) (a : Ans) (R : RoomR n it a) : (ev Tryz.prog tab (n + 8)).callA 9 [it.pv, a.pv] = some [intP (scoreN it a), intP (scoreE it a)] := by
  by_cases h : kvalidI it a = 0
  · have hk := (valid_kind (bad_not h).1).1
    by_cases h6 : it.kind = 6
    · exact scR6 n it a R h h6
    · cases ho : a.om with
      | true => exact scRO n it a R h h6 ho
      | false =>
        have h5 : it.kind = 1 ∨ it.kind = 2 ∨ it.kind = 3 ∨ it.kind = 4 ∨ it.kind = 5 := by omega
        rcases h5 with h1 | h1 | h1 | h1 | h1
        · exact scRK1 n it a R h ho h1
        · exact scRK2 n it a R h ho h1
        · exact scRK3 n it a R h ho h1
        · exact scRK4 n it a R h ho h1
        · exact scRK5 n it a R h ho h1
  · exact scR0 n it a R h
end Go.Proofs.YtlhjljplfmmoaaaGreatDoor.Ev
namespace Go.Proofs.YtlhjljplfmmoaaaGreatDoor.Ev
open Go
set_option linter.unusedSimpArgs false
set_option linter.unusedVariables false
set_option maxRecDepth 10000
set_option maxHeartbeats 4000000
theorem copied_r (n : Nat) (zs : List Int) (h0 : zs ≠ []) (h8 : zs.length * 8 ≤ 140737488351232) (hn : zs.length ≤ n) : (ev Tryz.prog tab (n + 1)).callA 30 [.sl (zs.map intP)] = some [.sl (zs.map intP)] := by
  have hq : ∀ z : Int, intP z = .val (.int .i64 z) := fun _ => rfl
  have hl0 := List.length_pos_iff.2 h0
  rw [callA_fn rfl Tryz.func30 rfl rfl rfl]
  simp [-frame, Tryz.f30, hq]
  refine loop_rule (fun d st => ∃ (j : Nat) (b3 : TV) (so : Store) (a : List (Nat × TV)), st = { tm := frameOf 18 a, sus := [], so := so } ∧ look a 3 = b3 ∧ look a 6 = .sl (zs.map intP) ∧ look a 7 = .val (.int .i64 zs.length) ∧ look a 8 = .val (.int .i64 j) ∧ d = zs.length - j ∧ j ≤ zs.length ∧
    ((b3 = .nil ∧ j = 0 ∧ so = []) ∨ (0 < j ∧ b3 = .row 15 0 j ∧ ∃ y, so = [(14, .row 3 [.val (.int .i64 y)]), (15, .row 3 ((zs.take j).map intP))]))) ?_ _ zs.length _ (by omega) ⟨0, _, _, _, rfl, rfl, by simp [hq], by simp, by simp, rfl, by omega, .inl ⟨by simp, rfl, rfl⟩⟩
  rintro d st m ⟨j, b3, so, a, rfl, h3, h6, h7, h8', rfl, hj, hs⟩ ih
  by_cases hlt : j < zs.length
  · obtain ⟨x, hx⟩ : ∃ x, zs[j]? = some x := ⟨zs[j], by simp⟩
    have hw := wrap_succ hlt (show zs.length ≤ 9223372036854775807 by omega)
    have hd : decide ((j : Int) < zs.length) = true := by simp [hlt]
    have htake : zs.take (j + 1) = zs.take j ++ [x] := by rw [List.take_add_one, hx]; rfl
    have hl : (zs.take j).length = j := by simp; omega
    obtain ⟨bk, hbk⟩ : ∃ bk, bk = zs.take j := ⟨_, rfl⟩
    rw [← hbk] at hl htake hs
    have hsz := sized_int bk
    rcases hs with ⟨rfl, rfl, rfl⟩ | ⟨hj0, rfl, y, rfl⟩
    · have : bk = [] := List.eq_nil_of_length_eq_zero hl
      subst this
      simp [-frame, -getElem?_pos, h3, h6, h7, h8', hx, hw, hq, hd, hlt]
      exact ih _ _ (by omega) ⟨0 + 1, _, _, _, rfl, rfl, by simp [h6], by simp [h7], by simp [show IntKind.i64.wrap 1 = 1 from rfl], rfl, by omega, .inr ⟨by omega, by simp, x, by rw [htake]; rfl⟩⟩
    · have htk : List.take j (bk.map intP) = bk.map intP := List.take_of_length_le (by simp; omega)
      subst hl
      simp [-frame, -getElem?_pos, h3, h6, h7, h8', hx, hw, hq, hd, hlt, hsz, show bk.length ≤ 9223372036854775806 by omega, show (bk.length + 1) * 8 ≤ 140737488355328 by omega]
      exact ih _ _ (by omega) ⟨bk.length + 1, _, _, _, rfl, rfl, by simp [h6], by simp [h7], by simp, rfl, by omega, .inr ⟨by omega, by simp, x, by rw [htake, List.map_append]; rfl⟩⟩
  · obtain rfl : j = zs.length := by omega
    rcases hs with ⟨rfl, hj0, rfl⟩ | ⟨hj0, rfl, y, rfl⟩
    · omega
    · rw [List.take_length]
      have htk : List.take zs.length (zs.map intP) = zs.map intP := List.take_of_length_le (by simp)
      simp [-frame, h3, h6, h7, h8', hq, htk]
theorem same_self (n : Nat) (x : Ans) (hl : x.choices.length ≤ 9223372036854775806) (hn : x.choices.length ≤ n) : (ev Tryz.prog tab (n + 1)).callA 14 [x.pv, x.pv] = some [.val (.bool true)] := by
  obtain ⟨i1, c1, v1, t1, o1⟩ := x
  simp only at hl hn
  have hq : ∀ z : Int, intP z = .val (.int .i64 z) := fun _ => rfl
  have hbe : (o1 == o1) = true := by cases o1 <;> rfl
  rw [callA_fn rfl Tryz.func14 rfl rfl rfl]
  simp [-frame, Tryz.f14, Ans.pv, hbe]
  refine loop_rule (fun d st => ∃ (i : Nat) (a : List (Nat × TV)), st = { tm := frameOf 59 a, sus := [], so := [(2, .box [.val (.int .i64 i1), .sl (c1.map intP), .val (.int .i64 v1), .val (.string t1), .val (.bool o1)]), (3, .box [.val (.int .i64 i1), .sl (c1.map intP), .val (.int .i64 v1), .val (.string t1), .val (.bool o1)])] } ∧ look a 2 = .ptr 2 0 0 ∧ look a 3 = .ptr 3 0 0 ∧ look a 42 = .sl (c1.map intP) ∧ look a 43 = .val (.int .i64 c1.length) ∧ look a 44 = .val (.int .i64 i) ∧ d = c1.length - i ∧ i ≤ c1.length) ?_ _ c1.length _ (by omega) ⟨0, _, rfl, by simp, by simp, by simp, by simp, by simp, rfl, by omega⟩
  rintro d st m ⟨i, a, rfl, h2, h3, h42, h43, h44, rfl, hi⟩ ih
  by_cases hlt : i < c1.length
  · obtain ⟨z, hc⟩ : ∃ z, c1[i]? = some z := ⟨c1[i], by simp⟩
    have hw := wrap_succ hlt (show c1.length ≤ 9223372036854775807 by omega)
    have hd : decide ((i : Int) < c1.length) = true := by simp [hlt]
    simp [-frame, -getElem?_pos, h2, h3, h42, h43, h44, hd, hc, hlt, hw, hq]
    refine (drawK_of (by kernel_rfl)).trans ?_
    simp [-frame, -getElem?_pos, evOpD, callD, argRows, h2, h3, h42, h43, h44, hd, hc, hlt, hw, hq]
    exact ih _ _ (by omega) ⟨i + 1, _, rfl, by simp [h2], by simp [h3], by simp [h42], by simp [h43], by simp, rfl, by omega⟩
  · obtain rfl : i = c1.length := by omega
    simp [-frame, h2, h3, h42, h43, h44]
theorem sz27r : zeroT Tryz.prog 27 = some (.agg [.val (.int .i64 0), .nil, .val (.int .i64 0), .val (.string ⟨#[]⟩), .val (.bool false)]) := by kernel_rfl
attribute [local simp] sz27r
theorem right_r (n : Nat) (it : It) (hn : it.Fit n) (hm : it.Fit 9223372036854775806) (hz : it.choices.length * 8 ≤ 140737488351232) (h24 : 24 ≤ n) : (ev Tryz.prog tab (n + 7)).callA 11 [it.pv] = some [(rightA it).pv, intP (rightE it)] := by
  have w := valid_r n it hn hm h24
  by_cases hv : validI it = 0
  · have hkey := key_of hv
    have hk := (valid_kind hv).1
    unfold rightA rightE
    rw [if_pos hv, if_pos hv]
    rw [hv] at w
    unfold keyB at hkey
    have wc : it.choices ≠ [] → (ev Tryz.prog tab (n + 6)).callA 30 [.sl (it.choices.map intP)] = some [.sl (it.choices.map intP)] := fun hne => by
      match hx : it.choices, hne with
      | z :: t, _ => exact copied_r (n + 5) (z :: t) (by simp) (by rw [← hx]; exact hz) (by rw [← hx]; have := hn.choices; omega)
    obtain ⟨id, ver, kind, stem, opts, choices, val, tol, texts, pts, cont, fam, set, words, secs, assets, rub⟩ := it
    simp only [It.pv, intP, strP] at w
    simp only at hk hkey wc
    have h6 : kind = 1 ∨ kind = 2 ∨ kind = 3 ∨ kind = 4 ∨ kind = 5 ∨ kind = 6 := by omega
    rcases h6 with h1 | h1 | h1 | h1 | h1 | h1
    · subst h1
      simp at hkey
      have wc := wc (by rintro rfl; simp at hkey)
      rw [callA_fn rfl Tryz.func11 rfl rfl rfl]
      simp [-frame, Tryz.f11, It.pv, Ans.pv, ansK, intP, strP, w, wc]
    · subst h1
      simp at hkey
      have wc := wc (by rintro rfl; simp at hkey)
      rw [callA_fn rfl Tryz.func11 rfl rfl rfl]
      simp [-frame, Tryz.f11, It.pv, Ans.pv, ansK, intP, strP, w, wc]
    · subst h1
      simp at hkey
      have wc := wc (by rintro rfl; simp at hkey; omega)
      rw [callA_fn rfl Tryz.func11 rfl rfl rfl]
      simp [-frame, Tryz.f11, It.pv, Ans.pv, ansK, intP, strP, w, wc]
    · subst h1
      rw [callA_fn rfl Tryz.func11 rfl rfl rfl]
      simp [-frame, Tryz.f11, It.pv, Ans.pv, ansK, intP, strP, w]
    · subst h1
      simp [textsB] at hkey
      obtain ⟨x, t, rfl⟩ : ∃ x t, texts = x :: t := by
        cases texts with
        | nil => simp at hkey
        | cons x t => exact ⟨x, t, rfl⟩
      simp only [List.map_cons, strP] at w
      rw [callA_fn rfl Tryz.func11 rfl rfl rfl]
      simp [-frame, Tryz.f11, It.pv, Ans.pv, ansK, intP, strP, w]
    · subst h1
      rw [callA_fn rfl Tryz.func11 rfl rfl rfl]
      simp [-frame, Tryz.f11, It.pv, Ans.pv, ansZ, intP, strP, w]
  · unfold rightA rightE
    rw [if_neg hv, if_neg hv]
    generalize validI it = V at *
    obtain ⟨id, ver, kind, stem, opts, choices, val, tol, texts, pts, cont, fam, set, words, secs, assets, rub⟩ := it
    simp only [It.pv, intP, strP] at w
    rw [callA_fn rfl Tryz.func11 rfl rfl rfl]
    simp [-frame, Tryz.f11, It.pv, Ans.pv, ansZ, intP, strP, w, hv]
end Go.Proofs.YtlhjljplfmmoaaaGreatDoor.Ev
namespace Go.Proofs.YtlhjljplfmmoaaaGreatDoor.Ev
open Go
set_option linter.unusedSimpArgs false
set_option linter.unusedVariables false
set_option maxRecDepth 10000
set_option maxHeartbeats 4000000
attribute [local simp] sz27r
theorem scores_core (n : Nat) (it : It) (a x : Ans) (N E G K : Int)
    (w8 : (ev Tryz.prog tab (n + 1)).callA 8 [it.pv, a.pv] = some [intP N, intP E]) (w9 : (ev Tryz.prog tab (n + 1)).callA 9 [it.pv, a.pv] = some [intP N, intP E])
    (w10 : (ev Tryz.prog tab (n + 1)).callA 10 [it.pv] = some [x.pv, intP G]) (w11 : (ev Tryz.prog tab (n + 1)).callA 11 [it.pv] = some [x.pv, intP G])
    (w12 : (ev Tryz.prog tab (n + 1)).callA 12 [it.pv, a.pv] = some [intP K]) (w13 : (ev Tryz.prog tab (n + 1)).callA 13 [it.pv, a.pv] = some [intP K])
    (w14 : (ev Tryz.prog tab (n + 1)).callA 14 [x.pv, x.pv] = some [.val (.bool true)]) (w15 : (ev Tryz.prog tab (n + 1)).callA 15 [] = some [.val (.bool true)]) :
    (ev Tryz.prog tab (n + 2)).callA 3 [it.pv, a.pv] = some [.val (.bool true)] := by
  obtain ⟨id, ver, kind, stem, opts, choices, val, tol, texts, pts, cont, fam, set, words, secs, assets, rub⟩ := it
  obtain ⟨aid, ach, av, at', om⟩ := a
  obtain ⟨xid, xch, xv, xt, xom⟩ := x
  simp only [It.pv, Ans.pv, intP] at w8 w9 w10 w11 w12 w13 w14
  rw [callA_fn rfl Tryz.func3 rfl rfl rfl]
  simp [-frame, Tryz.f3, It.pv, Ans.pv, intP, w8, w9, w10, w11, w12, w13, w14, w15]
  refine (drawK_of (by kernel_rfl)).trans ?_
  simp [-frame, evOpD, callD, argRows, w8, w9, w10, w11, w12, w13, w14, w15]
theorem fit_ur {it : It} {n m : Nat} (h : it.Fit n) (hle : n ≤ m) : it.Fit m := ⟨Nat.le_trans h.stem hle, Nat.le_trans h.cont hle, Nat.le_trans h.opts hle, fun s hs => Nat.le_trans (h.optsS s hs) hle, Nat.le_trans h.choices hle, Nat.le_trans h.texts hle, fun s hs => Nat.le_trans (h.textsS s hs) hle, Nat.le_trans h.assets hle⟩
theorem scores_ev (m : Nat) (it : It) (a : Ans) (haw : (ev Tryz.prog tab (m + 60)).callA 15 [] = some [.val (.bool true)]) (hn : it.Fit m) (hm : it.Fit 140737488351232) (hz : it.choices.length * 8 ≤ 140737488351232) (ha : a.choices.length ≤ 140737488351232) (han : a.choices.length ≤ m) (hat : a.text.size ≤ 140737488351232) (hatn : a.text.size ≤ m) :
    (ev Tryz.prog tab (m + 61)).callA 3 [it.pv, a.pv] = some [.val (.bool true)] := by
  have hM : it.Fit 9223372036854775807 := fit_ur hm (by decide)
  have hM6 : it.Fit 9223372036854775806 := fit_ur hm (by decide)
  have R : Room (m + 38) it a := ⟨fit_ur hn (by omega), hM, hz, by omega, by omega, by omega, by omega, by omega⟩
  have RR : RoomR (m + 52) it a := ⟨fit_ur hn (by omega), hM6, by omega, by omega, by omega, by omega, by omega⟩
  have hkc : (rightA it).choices.length ≤ it.choices.length := by
    unfold rightA
    split
    · split
      · exact Nat.zero_le _
      · unfold ansK; split <;> (try split) <;> simp
    · exact Nat.zero_le _
  have hch := hm.choices
  have hch2 := hn.choices
  exact scores_core (m + 59) it a (rightA it) _ _ _ _ (score_ev (m + 38) it a R) (score_r (m + 52) it a RR)
    (right_ev (m + 39) it (fit_ur hn (by omega)) hM hz) (right_r (m + 53) it (fit_ur hn (by omega)) hM6 hz (by omega))
    (kvalid_ev (m + 39) it a (fit_ur hn (by omega)) hM hz (by omega) (by omega) (by omega)) (kvalid_r (m + 53) it a (fit_ur hn (by omega)) hM6 (by omega) (by omega) (by omega))
    (same_self (m + 59) (rightA it) (by omega) (by omega)) haw
theorem fitsV_ans {n : Nat} {x : PV} (h : FitsV Tryz.prog (n + 3) 27 x) : ∃ a : Ans, x = a.pv ∧ a.choices.length * 8 ≤ 140737488351232 ∧ a.text.size ≤ 140737488351232 := by
  obtain ⟨h1, h2⟩ := h
  unfold Fits at h1
  rw [Tryz.underlying27] at h1
  simp only [FitsFs] at h1
  obtain ⟨p1, q1, hx, _, f1, p2, q2, rfl, _, f2, p3, q3, rfl, _, f3, p4, q4, rfl, _, f4, p5, q5, rfl, _, f5, rfl⟩ := h1
  obtain ⟨item, rfl⟩ := fits_i64 f1 Tryz.underlying3
  obtain ⟨choices, rfl, zchoices⟩ := fits_ints f2 Tryz.underlying23 Tryz.underlying3 (by kernel_rfl)
  obtain ⟨value, rfl⟩ := fits_i64 f3 Tryz.underlying3
  obtain ⟨text, rfl, ztext⟩ := fits_str f4 Tryz.underlying9
  obtain ⟨om, rfl⟩ := fits_bool f5 Tryz.underlying4
  refine ⟨⟨item, choices, value, text, om⟩, ?_, zchoices, ztext⟩
  rcases h2 with ⟨_, c, rfl⟩ | ⟨h2, _⟩
  · exact congrArg PV.agg hx
  · unfold isAggT at h2; rw [Tryz.underlying27] at h2; cases h2
set_option maxRecDepth 100000 in
theorem scores_law (W : World) (args : Array Value) (xs : List PV) (h1 : RepVL (inW W) W xs args.toList) (h2 : FitsAll Tryz.prog 6 [25, 27] xs) : Calls Tryz.prog 3 args W fun e W' => e = .returned (.bool true) ∧ RowKit.Below W.heap.size W W' := by
    obtain ⟨x, y, rfl, hx, hy⟩ := fitsAll2 h2
    obtain ⟨it, rfl, hit, hz, m, hm⟩ := fitsV_item (n := 3) hx
    obtain ⟨a, rfl, ha, hat⟩ := fitsV_ans (n := 3) hy
    have he := scores_ev (m + a.choices.length + a.text.size) it a (awake_ev (m + a.choices.length + a.text.size + 20)) (fit_ur hm (by omega)) hit hz (by omega) (by omega) hat (by omega)
    exact calls_of_ev Tryz.func3 (by kernel_rfl) rfl he h1
end Go.Proofs.YtlhjljplfmmoaaaGreatDoor.Ev
