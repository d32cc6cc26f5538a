/- keying.Score and keying.Right: what they compute, and plain facts. -/
import Derived.Test.YtlhjljplfmmoaaaGreatDoorF50
import Derived.Test.YtlhjljplfmmoaaaGreatDoorF21
import Derived.Test.YtlhjljplfmmoaaaGreatDoorF22
import Derived.Test.YtlhjljplfmmoaaaGreatDoorF31
namespace Go.Proofs.YtlhjljplfmmoaaaGreatDoor.Ev
open Go
set_option linter.unusedSimpArgs false
set_option linter.unusedVariables false
set_option maxRecDepth 10000
set_option maxHeartbeats 4000000
def ptsI (it : It) (a : Ans) : Int :=
  if it.kind = 1 then (if a.choices[0]? = it.choices[0]? then it.pts else 0)
  else if it.kind = 2 then shareI it.pts (2 * (cntB (memB it.choices) a.choices : Int) - a.choices.length) it.choices.length
  else if it.kind = 3 then shareI it.pts (2 * (ordR (fun x => idxI x it.choices 0) a.choices : Int) - ordA a.choices) (ordA a.choices)
  else if it.kind = 4 then (if a.value - it.val ≤ it.tol ∧ it.val - a.value ≤ it.tol then it.pts else 0)
  else (if it.texts.any (eqS ⟨(Kn.normal a.text.data.toList).toArray⟩) = true then it.pts else 0)
noncomputable def scoreE (it : It) (a : Ans) : Int := if kvalidI it a = 0 then (if it.kind = 6 then 8 else 0) else kvalidI it a
noncomputable def scoreN (it : It) (a : Ans) : Int := if kvalidI it a = 0 then (if it.kind = 6 then 0 else if a.om = true then 0 else ptsI it a) else 0
structure Room (n : Nat) (it : It) (a : Ans) : Prop where
  hn : it.Fit n
  hm : it.Fit 9223372036854775807
  hz : it.choices.length * 8 ≤ 140737488351232
  ha : a.choices.length ≤ 9223372036854775806
  han : a.choices.length ≤ n
  hat : a.text.size ≤ 140737488355328
  hatn : a.text.size ≤ n
  hn10 : 10 ≤ n
theorem score0 (n : Nat) (it : It) (a : Ans) (R : Room n it a) (h : ¬ kvalidI it a = 0) : (ev Tryz.prog tab (n + 22)).callA 8 [it.pv, a.pv] = some [intP (scoreN it a), intP (scoreE it a)] := by
  have w := kvalid_ev n it a R.hn R.hm R.hz R.ha R.han R.hn10
  unfold scoreN scoreE
  rw [if_neg h, if_neg h]
  generalize kvalidI it a = V at *
  obtain ⟨id, ver, kind, stem, opts, choices, val, tol, texts, pts, cont, fam, set, words, secs, assets, rub⟩ := it
  obtain ⟨aid, ach, av, at', om⟩ := a
  simp only [It.pv, Ans.pv, intP, strP] at w
  rw [callA_fn rfl Tryz.func8 rfl rfl rfl]
  simp [-frame, Tryz.f8, It.pv, Ans.pv, intP, strP, w, h]
theorem score6 (n : Nat) (it : It) (a : Ans) (R : Room n it a) (h : kvalidI it a = 0) (hk : it.kind = 6) : (ev Tryz.prog tab (n + 22)).callA 8 [it.pv, a.pv] = some [intP (scoreN it a), intP (scoreE it a)] := by
  have w := kvalid_ev n it a R.hn R.hm R.hz R.ha R.han R.hn10
  unfold scoreN scoreE
  rw [if_pos h, if_pos h, if_pos hk, if_pos hk]
  rw [h] at w
  obtain ⟨id, ver, kind, stem, opts, choices, val, tol, texts, pts, cont, fam, set, words, secs, assets, rub⟩ := it
  obtain ⟨aid, ach, av, at', om⟩ := a
  simp only at hk
  subst hk
  simp only [It.pv, Ans.pv, intP, strP] at w
  rw [callA_fn rfl Tryz.func8 rfl rfl rfl]
  simp [-frame, Tryz.f8, It.pv, Ans.pv, intP, strP, w]
theorem scoreO (n : Nat) (it : It) (a : Ans) (R : Room n it a) (h : kvalidI it a = 0) (hk : ¬ it.kind = 6) (ho : a.om = true) : (ev Tryz.prog tab (n + 22)).callA 8 [it.pv, a.pv] = some [intP (scoreN it a), intP (scoreE it a)] := by
  have w := kvalid_ev n it a R.hn R.hm R.hz R.ha R.han R.hn10
  unfold scoreN scoreE
  rw [if_pos h, if_pos h, if_neg hk, if_neg hk, if_pos ho]
  rw [h] at w
  obtain ⟨id, ver, kind, stem, opts, choices, val, tol, texts, pts, cont, fam, set, words, secs, assets, rub⟩ := it
  obtain ⟨aid, ach, av, at', om⟩ := a
  simp only at hk ho
  subst ho
  simp only [It.pv, Ans.pv, intP, strP] at w
  rw [callA_fn rfl Tryz.func8 rfl rfl rfl]
  simp [-frame, Tryz.f8, It.pv, Ans.pv, intP, strP, w, hk]
theorem bad_not {it : It} {a : Ans} (h : kvalidI it a = 0) : validI it = 0 ∧ a.item = it.id ∧ badB it.kind a = false ∧ (a.om = true ∨ inner it.kind it.opts.length a = 0) := by
  unfold kvalidI at h
  split at h
  · rename_i hv
    split at h
    · rename_i hi
      split at h
      · simp at h
      · rename_i hb
        refine ⟨hv, hi, by simpa using hb, ?_⟩
        split at h
        · rename_i ho; exact .inl ho
        · exact .inr h
    · simp at h
  · rename_i hv; exact absurd h hv
theorem pts_range {it : It} (h : validI it = 0) : 1 ≤ it.pts ∧ it.pts ≤ 5 := by
  have := (valid_kind h).2.2.1
  simp [numbersB, withinB] at this
  omega
theorem key_of {it : It} (h : validI it = 0) : keyB it = true := by
  have h2 := (valid_kind h).2.1
  unfold fitsB at h2
  split at h2
  · simp at h2
  · split at h2
    · simp at h2
    · exact h2
theorem choices_ok {k : Int} {n : Nat} {l : List Int} (h : choicesI k n l = 0) : l.all (inB n) = true ∧ rightB k n l = true := by
  unfold choicesI at h
  split at h
  · rename_i h1
    split at h
    · rename_i h2; exact ⟨h1, h2⟩
    · simp at h
  · simp at h
theorem whole_ev2 (n : Nat) (it : It) (b : Bool) : (ev Tryz.prog tab (n + 1)).callA 20 [it.pv, .val (.bool b)] = some [intP (if b = true then it.pts else 0)] := by
  obtain ⟨id, ver, kind, stem, opts, choices, val, tol, texts, pts, cont, fam, set, words, secs, assets, rub⟩ := it
  rw [callA_fn rfl Tryz.func20 rfl rfl rfl]
  cases b <;> simp [Tryz.f20, It.pv, intP, strP]
theorem inB_iff {n : Nat} {c : Int} (h : inB n c = true) : 0 ≤ c ∧ c < n := by
  simp [inB] at h
  omega
theorem up_length {n : Nat} {l : List Int} (h1 : l.all (inB n) = true) (h2 : upB l = true) : l.length ≤ n := by
  have key : ∀ (i : Nat) (z : Int), l[i]? = some z → (i : Int) ≤ z := by
    intro i
    induction i with
    | zero => intro z hz; exact (inB_iff (List.all_eq_true.1 h1 z (List.mem_of_getElem? hz))).1
    | succ i ih =>
      intro z hz
      have hlt := (List.getElem?_eq_some_iff.1 hz).1
      obtain ⟨y, hy⟩ : ∃ y, l[i]? = some y := ⟨l[i], by simp⟩
      have := List.all_eq_true.1 h2 (i + 1) (List.mem_range.2 hlt)
      unfold upAt at this
      rw [hz, Nat.add_sub_cancel, hy] at this
      simp at this
      have := ih y hy
      omega
  by_cases h0 : l.length = 0
  · omega
  · obtain ⟨z, hz⟩ : ∃ z, l[l.length - 1]? = some z := ⟨l[l.length - 1], by simp⟩
    have h3 := key _ z hz
    have h4 := (inB_iff (List.all_eq_true.1 h1 z (List.mem_of_getElem? hz))).2
    omega
theorem rise_up {l : List Int} {n : Nat} (h : risingB l 0 ((n : Int) - 1) = true) : l.all (inB n) = true ∧ upB l = true := by
  have key : ∀ (i : Nat) (z : Int), l[i]? = some z → (0 ≤ z ∧ z ≤ (n : Int) - 1) ∧ (i = 0 ∨ ∀ y, l[i - 1]? = some y → y < z) := by
    intro i z hz
    have := List.all_eq_true.1 h i (List.mem_range.2 (List.getElem?_eq_some_iff.1 hz).1)
    unfold riseAt at this
    rw [hz] at this
    simp only [withinB, Bool.and_eq_true, decide_eq_true_eq, Bool.or_eq_true] at this
    refine ⟨this.1, ?_⟩
    rcases this.2 with h0 | h0
    · exact .inl h0
    · right
      intro y hy
      rw [hy] at h0
      simp at h0
      omega
  constructor
  · rw [List.all_eq_true]
    intro z hz
    obtain ⟨i, hi⟩ := List.mem_iff_getElem?.1 hz
    have := (key i z hi).1
    simp [inB]
    omega
  · unfold upB
    rw [List.all_eq_true]
    intro i hi
    have hlt := List.mem_range.1 hi
    obtain ⟨z, hz⟩ : ∃ z, l[i]? = some z := ⟨l[i], by simp⟩
    unfold upAt
    rcases (key i z hz).2 with h0 | h0
    · simp [h0]
    · obtain ⟨y, hy⟩ : ∃ y, l[i - 1]? = some y := ⟨l[i - 1], by simp⟩
      rw [hz, hy]
      simp [h0 y hy]
end Go.Proofs.YtlhjljplfmmoaaaGreatDoor.Ev
namespace Go.Proofs.YtlhjljplfmmoaaaGreatDoor.Ev
open Go
set_option linter.unusedSimpArgs false
set_option linter.unusedVariables false
set_option maxRecDepth 10000
set_option maxHeartbeats 4000000
theorem scoreK1 (n : Nat) (it : It) (a : Ans) (R : Room n it a) (h : kvalidI it a = 0) (ho : a.om = false) (hk : it.kind = 1) : (ev Tryz.prog tab (n + 22)).callA 8 [it.pv, a.pv] = some [intP (scoreN it a), intP (scoreE it a)] := by
  have w := kvalid_ev n it a R.hn R.hm R.hz R.ha R.han R.hn10
  obtain ⟨hv, hid, hbad, hinn⟩ := bad_not h
  have hkey := key_of hv
  have hpts := pts_range hv
  have hno := valid_opts hv
  have hsN : scoreN it a = ptsI it a := by unfold scoreN; rw [if_pos h, if_neg (by omega), if_neg (by simp [ho])]
  have hsE : scoreE it a = 0 := by unfold scoreE; rw [if_pos h, if_neg (by omega)]
  rw [hsN, hsE]
  rw [h] at w
  unfold keyB at hkey
  have hinn := hinn.resolve_left (by rw [ho]; simp)
  unfold inner at hinn
  rw [hk] at hkey hinn
  unfold ptsI
  rw [hk]
  simp at hkey hinn
  obtain ⟨c1, c2⟩ := choices_ok hinn
  simp [rightB] at c2
  obtain ⟨x, hx⟩ : ∃ x, a.choices = [x] := List.length_eq_one_iff.1 c2
  obtain ⟨y, hy⟩ : ∃ y, it.choices = [y] := List.length_eq_one_iff.1 hkey.1.2
  have ws := whole_ev2 (n + 20) it (decide (x = y))
  rw [hx, hy]
  obtain ⟨id, ver, kind, stem, opts, choices, val, tol, texts, pts, cont, fam, set, words, secs, assets, rub⟩ := it
  obtain ⟨aid, ach, av, at', om⟩ := a
  simp only at hk ho hx hy
  subst hk
  subst ho
  subst hx
  subst hy
  simp only [It.pv, Ans.pv, intP, strP, List.map_cons, List.map_nil] at w ws
  rw [callA_fn rfl Tryz.func8 rfl rfl rfl]
  by_cases hxy : x = y
  · subst hxy
    simp at ws
    simp [-frame, Tryz.f8, It.pv, Ans.pv, intP, strP, w, ws]
    refine (drawK_of (by kernel_rfl)).trans ?_
    simp [-frame, evOpD, callD, argRows, w, ws]
  · simp [hxy] at ws
    simp [-frame, Tryz.f8, It.pv, Ans.pv, intP, strP, w, ws, hxy]
    refine (drawK_of (by kernel_rfl)).trans ?_
    simp [-frame, evOpD, callD, argRows, w, ws, hxy]
theorem scoreK2 (n : Nat) (it : It) (a : Ans) (R : Room n it a) (h : kvalidI it a = 0) (ho : a.om = false) (hk : it.kind = 2) : (ev Tryz.prog tab (n + 22)).callA 8 [it.pv, a.pv] = some [intP (scoreN it a), intP (scoreE it a)] := by
  have w := kvalid_ev n it a R.hn R.hm R.hz R.ha R.han R.hn10
  obtain ⟨hv, hid, hbad, hinn⟩ := bad_not h
  have hkey := key_of hv
  have hpts := pts_range hv
  have hno := valid_opts hv
  have hsN : scoreN it a = ptsI it a := by unfold scoreN; rw [if_pos h, if_neg (by omega), if_neg (by simp [ho])]
  have hsE : scoreE it a = 0 := by unfold scoreE; rw [if_pos h, if_neg (by omega)]
  rw [hsN, hsE]
  rw [h] at w
  unfold keyB at hkey
  have hinn := hinn.resolve_left (by rw [ho]; simp)
  unfold inner at hinn
  rw [hk] at hkey hinn
  unfold ptsI
  rw [hk]
  simp at hkey hinn
  obtain ⟨c1, c2⟩ := choices_ok hinn
  have c3 := up_length c1 (by simpa [rightB] using c2)
  obtain ⟨c4, c5⟩ := rise_up hkey.2
  have c6 := up_length c4 c5
  have ws := several_ev (n + 18) it a.choices (by omega) (by have := R.hn10; omega) (by omega) (by have := R.hn10; omega) (by omega) (by omega) (by omega)
  obtain ⟨id, ver, kind, stem, opts, choices, val, tol, texts, pts, cont, fam, set, words, secs, assets, rub⟩ := it
  obtain ⟨aid, ach, av, at', om⟩ := a
  simp only at hk ho hkey hinn hpts hno ws
  subst hk
  subst ho
  simp only [It.pv, Ans.pv, intP, strP] at w ws
  rw [callA_fn rfl Tryz.func8 rfl rfl rfl]
  simp [-frame, Tryz.f8, It.pv, Ans.pv, intP, strP, w, ws]
theorem scoreK3 (n : Nat) (it : It) (a : Ans) (R : Room n it a) (h : kvalidI it a = 0) (ho : a.om = false) (hk : it.kind = 3) : (ev Tryz.prog tab (n + 22)).callA 8 [it.pv, a.pv] = some [intP (scoreN it a), intP (scoreE it a)] := by
  have w := kvalid_ev n it a R.hn R.hm R.hz R.ha R.han R.hn10
  obtain ⟨hv, hid, hbad, hinn⟩ := bad_not h
  have hkey := key_of hv
  have hpts := pts_range hv
  have hno := valid_opts hv
  have hsN : scoreN it a = ptsI it a := by unfold scoreN; rw [if_pos h, if_neg (by omega), if_neg (by simp [ho])]
  have hsE : scoreE it a = 0 := by unfold scoreE; rw [if_pos h, if_neg (by omega)]
  rw [hsN, hsE]
  rw [h] at w
  unfold keyB at hkey
  have hinn := hinn.resolve_left (by rw [ho]; simp)
  unfold inner at hinn
  rw [hk] at hkey hinn
  unfold ptsI
  rw [hk]
  simp at hkey hinn
  obtain ⟨c1, c2⟩ := choices_ok hinn
  simp [rightB] at c2
  have c3 : 2 ≤ a.choices.length := by omega
  have c4 : 0 < ordA a.choices := by
    obtain ⟨x, y, t, ht⟩ : ∃ x y t, a.choices = x :: y :: t := by
      match hx : a.choices with
      | [] => rw [hx] at c3; simp at c3
      | [x] => rw [hx] at c3; simp at c3
      | x :: y :: t => exact ⟨x, y, t, rfl⟩
    rw [ht]
    simp [ordA]
    omega
  have ws := order_ev (n + 18) it a.choices (by omega) (by have := R.hn10; omega) (by omega) (by have := R.hn10; omega) (by omega) (by omega) c4
  obtain ⟨id, ver, kind, stem, opts, choices, val, tol, texts, pts, cont, fam, set, words, secs, assets, rub⟩ := it
  obtain ⟨aid, ach, av, at', om⟩ := a
  simp only at hk ho hkey hinn hpts hno ws
  subst hk
  subst ho
  simp only [It.pv, Ans.pv, intP, strP] at w ws
  rw [callA_fn rfl Tryz.func8 rfl rfl rfl]
  simp [-frame, Tryz.f8, It.pv, Ans.pv, intP, strP, w, ws]
theorem scoreK4 (n : Nat) (it : It) (a : Ans) (R : Room n it a) (h : kvalidI it a = 0) (ho : a.om = false) (hk : it.kind = 4) : (ev Tryz.prog tab (n + 22)).callA 8 [it.pv, a.pv] = some [intP (scoreN it a), intP (scoreE it a)] := by
  have w := kvalid_ev n it a R.hn R.hm R.hz R.ha R.han R.hn10
  obtain ⟨hv, hid, hbad, hinn⟩ := bad_not h
  have hkey := key_of hv
  have hpts := pts_range hv
  have hno := valid_opts hv
  have hsN : scoreN it a = ptsI it a := by unfold scoreN; rw [if_pos h, if_neg (by omega), if_neg (by simp [ho])]
  have hsE : scoreE it a = 0 := by unfold scoreE; rw [if_pos h, if_neg (by omega)]
  rw [hsN, hsE]
  rw [h] at w
  unfold keyB at hkey
  have hinn := hinn.resolve_left (by rw [ho]; simp)
  unfold inner at hinn
  rw [hk] at hkey hinn
  unfold ptsI
  rw [hk]
  simp [withinB] at hkey hinn
  have ws := whole_ev2 (n + 20) it (decide (a.value - it.val ≤ it.tol ∧ it.val - a.value ≤ it.tol))
  have hw1 : IntKind.i64.wrap (a.value - it.val) = a.value - it.val := wrap_i64 (by omega) (by omega)
  have hw2 : IntKind.i64.wrap (it.val - a.value) = it.val - a.value := wrap_i64 (by omega) (by omega)
  obtain ⟨id, ver, kind, stem, opts, choices, val, tol, texts, pts, cont, fam, set, words, secs, assets, rub⟩ := it
  obtain ⟨aid, ach, av, at', om⟩ := a
  simp only at hk ho hkey hinn hw1 hw2
  subst hk
  subst ho
  simp only [It.pv, Ans.pv, intP, strP] at w ws
  rw [callA_fn rfl Tryz.func8 rfl rfl rfl]
  by_cases g1 : av - val ≤ tol
  · by_cases g2 : val - av ≤ tol
    · have e : decide (av - val ≤ tol ∧ val - av ≤ tol) = true := by simp [g1, g2]
      rw [e] at ws
      by_cases g3 : av - val < val - av
      · simp [-frame, Tryz.f8, It.pv, Ans.pv, intP, strP, w, hw1, hw2, g1, g2, g3, ws]
      · simp [-frame, Tryz.f8, It.pv, Ans.pv, intP, strP, w, hw1, hw2, g1, g2, g3, ws]
    · have e : decide (av - val ≤ tol ∧ val - av ≤ tol) = false := by simp [g2]
      rw [e] at ws
      have g3 : av - val < val - av := by omega
      simp [-frame, Tryz.f8, It.pv, Ans.pv, intP, strP, w, hw1, hw2, g1, g2, g3, ws]
  · have e : decide (av - val ≤ tol ∧ val - av ≤ tol) = false := by simp [g1]
    rw [e] at ws
    have g3 : ¬ av - val < val - av := by omega
    simp [-frame, Tryz.f8, It.pv, Ans.pv, intP, strP, w, hw1, hw2, g1, g3, ws]
theorem scoreK5 (n : Nat) (it : It) (a : Ans) (R : Room n it a) (h : kvalidI it a = 0) (ho : a.om = false) (hk : it.kind = 5) : (ev Tryz.prog tab (n + 22)).callA 8 [it.pv, a.pv] = some [intP (scoreN it a), intP (scoreE it a)] := by
  have w := kvalid_ev n it a R.hn R.hm R.hz R.ha R.han R.hn10
  obtain ⟨hv, hid, hbad, hinn⟩ := bad_not h
  have hkey := key_of hv
  have hpts := pts_range hv
  have hno := valid_opts hv
  have hsN : scoreN it a = ptsI it a := by unfold scoreN; rw [if_pos h, if_neg (by omega), if_neg (by simp [ho])]
  have hsE : scoreE it a = 0 := by unfold scoreE; rw [if_pos h, if_neg (by omega)]
  rw [hsN, hsE]
  rw [h] at w
  unfold keyB at hkey
  have hinn := hinn.resolve_left (by rw [ho]; simp)
  unfold inner at hinn
  rw [hk] at hkey hinn
  unfold ptsI
  rw [hk]
  have wn := normal_ev (n + 17) a.text _ rfl R.hat (by have := R.hatn; omega)
  have wc := containsS_ev (n + 19) it.texts ⟨(Kn.normal a.text.data.toList).toArray⟩ R.hm.texts (by have := R.hn.texts; omega)
  have ws := whole_ev2 (n + 20) it (it.texts.any (eqS ⟨(Kn.normal a.text.data.toList).toArray⟩))
  obtain ⟨id, ver, kind, stem, opts, choices, val, tol, texts, pts, cont, fam, set, words, secs, assets, rub⟩ := it
  obtain ⟨aid, ach, av, at', om⟩ := a
  simp only at hk ho wn wc ws
  subst hk
  subst ho
  simp only [It.pv, Ans.pv, intP, strP] at w wn wc ws
  generalize Kn.normal at'.data.toList = N at *
  rw [callA_fn rfl Tryz.func8 rfl rfl rfl]
  simp [-frame, Tryz.f8, It.pv, Ans.pv, intP, strP, w, wn, wc, ws]
  refine (drawK_of (by kernel_rfl)).trans ?_
  simp [-frame, evOpD, callD, argRows, w, wn, wc, ws]
end Go.Proofs.YtlhjljplfmmoaaaGreatDoor.Ev
namespace Go.Proofs.YtlhjljplfmmoaaaGreatDoor.Ev
open Go
set_option linter.unusedSimpArgs false
set_option linter.unusedVariables false
set_option maxRecDepth 10000
set_option maxHeartbeats 4000000
theorem sz27z : zeroT Tryz.prog 27 = some (.agg [.val (.int .i64 0), .nil, .val (.int .i64 0), .val (.string ⟨#[]⟩), .val (.bool false)]) := by kernel_rfl
attribute [local simp] sz27z
theorem score_ev (n : Nat) (it : It) (a : Ans) (R : Room n it a) : (ev Tryz.prog tab (n + 22)).callA 8 [it.pv, a.pv] = some [intP (scoreN it a), intP (scoreE it a)] := by
  by_cases h : kvalidI it a = 0
  · have hk := (valid_kind (bad_not h).1).1
    by_cases h6 : it.kind = 6
    · exact score6 n it a R h h6
    · cases ho : a.om with
      | true => exact scoreO n it a R h h6 ho
      | false =>
        have h5 : it.kind = 1 ∨ it.kind = 2 ∨ it.kind = 3 ∨ it.kind = 4 ∨ it.kind = 5 := by omega
        rcases h5 with h1 | h1 | h1 | h1 | h1
        · exact scoreK1 n it a R h ho h1
        · exact scoreK2 n it a R h ho h1
        · exact scoreK3 n it a R h ho h1
        · exact scoreK4 n it a R h ho h1
        · exact scoreK5 n it a R h ho h1
  · exact score0 n it a R h
theorem clone_ev (n : Nat) (z : Int) (t : List Int) (h : (z :: t).length * 8 ≤ 140737488351232) : (ev Tryz.prog tab (n + 1)).callA 28 [.sl ((z :: t).map intP)] = some [.sl ((z :: t).map intP)] := by
  have hq : ∀ z : Int, intP z = .val (.int .i64 z) := fun _ => rfl
  have hs := sized_int t
  simp only [List.length_cons] at h
  have htk : List.take t.length (t.map intP) = t.map intP := List.take_of_length_le (by simp)
  rw [callA_fn rfl Tryz.func28 rfl rfl rfl]
  simp [-frame_eq, Tryz.f28, hq, hs, htk, show t.length + 1 ≤ 9223372036854775807 by omega, show t.length ≤ 9223372036854775806 by omega, show (t.length + 1) * 8 ≤ 140737488355328 by omega]
def ansZ : Ans := ⟨0, [], 0, ⟨#[]⟩, false⟩
def ansK (it : It) : Ans :=
  if it.kind = 4 then ⟨it.id, [], it.val, ⟨#[]⟩, false⟩
  else if it.kind = 5 then ⟨it.id, [], 0, it.texts[0]?.getD ⟨#[]⟩, false⟩
  else ⟨it.id, it.choices, 0, ⟨#[]⟩, false⟩
noncomputable def rightA (it : It) : Ans := if validI it = 0 then (if it.kind = 6 then ansZ else ansK it) else ansZ
noncomputable def rightE (it : It) : Int := if validI it = 0 then (if it.kind = 6 then 8 else 0) else validI it
theorem right_ev (n : Nat) (it : It) (hn : it.Fit n) (hm : it.Fit 9223372036854775807) (hz : it.choices.length * 8 ≤ 140737488351232) : (ev Tryz.prog tab (n + 21)).callA 10 [it.pv] = some [(rightA it).pv, intP (rightE it)] := by
  have w := valid_ev n it hn hm hz
  by_cases hv : validI it = 0
  · have hkey := key_of hv
    have hk := (valid_kind hv).1
    unfold rightA rightE
    rw [if_pos hv, if_pos hv]
    rw [hv] at w
    unfold keyB at hkey
    have wc : it.choices ≠ [] → (ev Tryz.prog tab (n + 20)).callA 28 [.sl (it.choices.map intP)] = some [.sl (it.choices.map intP)] := fun hne => by
      match hx : it.choices, hne with
      | z :: t, _ => exact clone_ev (n + 19) z t (by rw [← hx]; exact hz)
    obtain ⟨id, ver, kind, stem, opts, choices, val, tol, texts, pts, cont, fam, set, words, secs, assets, rub⟩ := it
    simp only [It.pv, intP, strP] at w
    simp only at hk hkey wc
    have h6 : kind = 1 ∨ kind = 2 ∨ kind = 3 ∨ kind = 4 ∨ kind = 5 ∨ kind = 6 := by omega
    rcases h6 with h1 | h1 | h1 | h1 | h1 | h1
    · subst h1
      simp at hkey
      have wc := wc (by rintro rfl; simp at hkey)
      rw [callA_fn rfl Tryz.func10 rfl rfl rfl]
      simp [-frame, Tryz.f10, It.pv, Ans.pv, ansK, intP, strP, w, wc]
    · subst h1
      simp at hkey
      have wc := wc (by rintro rfl; simp at hkey)
      rw [callA_fn rfl Tryz.func10 rfl rfl rfl]
      simp [-frame, Tryz.f10, It.pv, Ans.pv, ansK, intP, strP, w, wc]
    · subst h1
      simp at hkey
      have wc := wc (by rintro rfl; simp at hkey; omega)
      rw [callA_fn rfl Tryz.func10 rfl rfl rfl]
      simp [-frame, Tryz.f10, It.pv, Ans.pv, ansK, intP, strP, w, wc]
    · subst h1
      rw [callA_fn rfl Tryz.func10 rfl rfl rfl]
      simp [-frame, Tryz.f10, It.pv, Ans.pv, ansK, intP, strP, w]
    · subst h1
      simp [textsB] at hkey
      obtain ⟨x, t, rfl⟩ : ∃ x t, texts = x :: t := by
        cases texts with
        | nil => simp at hkey
        | cons x t => exact ⟨x, t, rfl⟩
      simp only [List.map_cons, strP] at w
      rw [callA_fn rfl Tryz.func10 rfl rfl rfl]
      simp [-frame, Tryz.f10, It.pv, Ans.pv, ansK, intP, strP, w]
    · subst h1
      rw [callA_fn rfl Tryz.func10 rfl rfl rfl]
      simp [-frame, Tryz.f10, It.pv, Ans.pv, ansZ, intP, strP, w]
  · unfold rightA rightE
    rw [if_neg hv, if_neg hv]
    generalize validI it = V at *
    obtain ⟨id, ver, kind, stem, opts, choices, val, tol, texts, pts, cont, fam, set, words, secs, assets, rub⟩ := it
    simp only [It.pv, intP, strP] at w
    rw [callA_fn rfl Tryz.func10 rfl rfl rfl]
    simp [-frame, Tryz.f10, It.pv, Ans.pv, ansZ, intP, strP, w, hv]
theorem same_zero (n : Nat) : (ev Tryz.prog tab (n + 2)).callA 14 [ansZ.pv, ansZ.pv] = some [.val (.bool true)] := by kernel_rfl
end Go.Proofs.YtlhjljplfmmoaaaGreatDoor.Ev
namespace Go.Proofs.YtlhjljplfmmoaaaGreatDoor.Ev
open Go
set_option linter.unusedSimpArgs false
set_option linter.unusedVariables false
set_option maxRecDepth 10000
set_option maxHeartbeats 4000000
def mapK (k : Nat) (a : List (Nat × TV)) : List (Nat × TV) := a.map fun p => (p.1, map3 (kill1 k) p.2)
theorem look_mapK (k i : Nat) : ∀ a : List (Nat × TV), look (mapK k a) i = map3 (kill1 k) (look a i)
  | [] => rfl
  | (j, v) :: t => by
    show (if i = j then map3 (kill1 k) v else look (mapK k t) i) = map3 (kill1 k) (if i = j then v else look t i)
    rw [look_mapK k i t]
    split <;> rfl
theorem map_frameOf (N k : Nat) (a : List (Nat × TV)) : List.map (map3 (kill1 k)) (frameOf N a) = frameOf N (mapK k a) := by
  unfold frameOf
  rw [List.map_map]
  apply List.map_congr_left
  intro i _
  exact (look_mapK k i a).symm
attribute [simp] look_mapK map_frameOf
theorem share_bounds {p m d : Int} (hp : 0 ≤ p) (hm : m ≤ d) (hd : 0 < d) : 0 ≤ shareI p m d ∧ shareI p m d ≤ p := by
  unfold shareI
  split
  · rw [Int.mul_zero, Int.zero_tdiv]; exact ⟨Int.le_refl _, hp⟩
  · rename_i h
    have h0 : 0 ≤ p * m := Int.mul_nonneg hp (by omega)
    refine ⟨Int.tdiv_nonneg h0 (by omega), ?_⟩
    rw [Int.tdiv_eq_ediv_of_nonneg h0]
    have h1 : p * m ≤ p * d := Int.mul_le_mul_of_nonneg_left hm hp
    have h2 : p * m / d ≤ p * d / d := Int.ediv_le_ediv hd h1
    rw [Int.mul_ediv_cancel p (by omega)] at h2
    exact h2
theorem share_full {p d : Int} (hd : 0 < d) : shareI p d d = p := by
  unfold shareI
  rw [if_neg (by omega), Int.mul_tdiv_cancel p (by omega)]
theorem memB_iff {cs : List Int} {c : Int} : memB cs c = true ↔ c ∈ cs := by
  unfold memB
  rw [List.any_eq_true]
  constructor
  · rintro ⟨x, hx, h⟩
    have : c = x := by simpa using h
    rw [this]; exact hx
  · intro h
    exact ⟨c, h, by simp⟩
theorem cntB_congr {p q : Int → Bool} : ∀ {l : List Int}, (∀ x, x ∈ l → p x = q x) → cntB p l = cntB q l
  | [], _ => rfl
  | x :: t, h => by
    unfold cntB
    rw [h x List.mem_cons_self, cntB_congr fun y hy => h y (List.mem_cons_of_mem _ hy)]
theorem cntB_mem : ∀ (l cs : List Int), l.Nodup → cntB (memB cs) l ≤ cs.length
  | [], cs, _ => Nat.zero_le _
  | x :: t, cs, h => by
    have hx := (List.nodup_cons.1 h).1
    have ht := (List.nodup_cons.1 h).2
    unfold cntB
    by_cases hm : x ∈ cs
    · rw [if_pos (memB_iff.2 hm)]
      have h1 : cntB (memB cs) t = cntB (memB (cs.erase x)) t := cntB_congr fun y hy => by
        rw [Bool.eq_iff_iff, memB_iff, memB_iff]
        have hne : y ≠ x := by rintro rfl; exact hx hy
        exact (List.mem_erase_of_ne hne).symm
      have h2 := cntB_mem t (cs.erase x) ht
      rw [List.length_erase_of_mem hm] at h2
      have h3 : 0 < cs.length := List.length_pos_of_mem hm
      omega
    · rw [if_neg (by rw [memB_iff]; exact hm)]
      have := cntB_mem t cs ht
      omega
theorem up_lt {l : List Int} (h : upB l = true) : ∀ (i j : Nat) (x y : Int), i < j → l[i]? = some x → l[j]? = some y → x < y := by
  intro i j
  induction j with
  | zero => intro x y h; omega
  | succ j ih =>
    intro x y hij hx hy
    have hlt := (List.getElem?_eq_some_iff.1 hy).1
    obtain ⟨z, hz⟩ : ∃ z, l[j]? = some z := ⟨l[j], by simp⟩
    have hzy : z < y := by
      have := List.all_eq_true.1 h (j + 1) (List.mem_range.2 hlt)
      unfold upAt at this
      rw [hy, Nat.add_sub_cancel, hz] at this
      simpa using this
    by_cases hij' : i = j
    · subst hij'
      rw [hx] at hz
      cases hz
      exact hzy
    · have := ih x z (by omega) hx hz
      omega
theorem up_nodup {l : List Int} (h : upB l = true) : l.Nodup := by
  rw [List.nodup_iff_pairwise_ne] 
  rw [List.pairwise_iff_getElem]
  intro i j hi hj hij
  have := up_lt h i j _ _ hij (List.getElem?_eq_getElem hi) (List.getElem?_eq_getElem hj)
  omega
theorem cnt_all {cs : List Int} : ∀ {l : List Int}, (∀ x, x ∈ l → x ∈ cs) → cntB (memB cs) l = l.length
  | [], _ => rfl
  | x :: t, h => by
    unfold cntB
    rw [if_pos (memB_iff.2 (h x List.mem_cons_self)), cnt_all fun y hy => h y (List.mem_cons_of_mem _ hy), List.length_cons]
    omega
theorem idxI_first : ∀ (l : List Int) (k : Int) (i : Nat) (x : Int), l.Nodup → l[i]? = some x → idxI x l k = k + i
  | [], _, _, _, _, h => by simp at h
  | y :: t, k, 0, x, _, h => by
    simp at h
    unfold idxI
    rw [if_pos h.symm]
    simp
  | y :: t, k, i + 1, x, hn, h => by
    simp at h
    have hne : ¬ x = y := by
      rintro rfl
      exact (List.nodup_cons.1 hn).1 (List.mem_of_getElem? h)
    unfold idxI
    rw [if_neg hne, idxI_first t (k + 1) i x (List.nodup_cons.1 hn).2 h]
    push_cast
    omega
theorem ordR_all {f : Int → Int} : ∀ {l : List Int}, (∀ (i j : Nat) (x y : Int), i < j → l[i]? = some x → l[j]? = some y → f x < f y) → ordR f l = ordA l
  | [], _ => rfl
  | a :: t, h => by
    unfold ordR ordA
    have h1 : cntB (fun b => decide (f a < f b)) t = t.length := by
      have : ∀ (u : List Int), (∀ b, b ∈ u → f a < f b) → cntB (fun b => decide (f a < f b)) u = u.length := by
        intro u
        induction u with
        | nil => intro _; rfl
        | cons b u ih =>
          intro hu
          unfold cntB
          rw [if_pos (by simpa using hu b List.mem_cons_self), ih fun c hc => hu c (List.mem_cons_of_mem _ hc), List.length_cons]
          omega
      refine this t fun b hb => ?_
      obtain ⟨j, hj⟩ := List.mem_iff_getElem?.1 hb
      exact h 0 (j + 1) a b (by omega) rfl (by simpa using hj)
    rw [h1, ordR_all fun i j x y hij hx hy => h (i + 1) (j + 1) x y (by omega) (by simpa using hx) (by simpa using hy)]
theorem seen_get : ∀ (l : List Int) (s : List Bool) (j : Nat), (∀ c, c ∈ l → 0 ≤ c) → (s[j]? = some true ∨ (j < s.length ∧ (j : Int) ∈ l)) → (seenF l s)[j]? = some true
  | [], s, j, _, h => by
    rcases h with h | ⟨_, h⟩
    · exact h
    · simp at h
  | c :: t, s, j, hc, h => by
    show (seenF t (s.set c.toNat true))[j]? = some true
    have hc0 := hc c List.mem_cons_self
    refine seen_get t _ j (fun d hd => hc d (List.mem_cons_of_mem _ hd)) ?_
    rcases h with h | ⟨hlt, h⟩
    · left
      rw [List.getElem?_set]
      have hj := (List.getElem?_eq_some_iff.1 h).1
      split
      · rename_i e; rw [if_pos (by omega)]
      · exact h
    · rcases List.mem_cons.1 h with h | h
      · left
        rw [List.getElem?_set, if_pos (by omega), if_pos (by omega)]
      · right
        exact ⟨by simpa using hlt, h⟩
theorem ins_perm' (x : Int) : ∀ l : List Int, (ins x l).Perm (x :: l)
  | [] => List.Perm.refl _
  | y :: t => by
    unfold ins
    split
    · exact List.Perm.refl _
    · exact ((ins_perm' x t).cons y).trans (List.Perm.swap x y t)
theorem isort_perm' : ∀ l : List Int, (isort l).Perm l
  | [] => List.Perm.refl _
  | x :: t => (ins_perm' x (isort t)).trans ((isort_perm' t).cons x)
theorem perm_seen {l : List Int} {n : Nat} (hr : risingB (isort l) 0 ((n : Int) - 1) = true) (hl : l.length = n) : l.all (inB n) = true ∧ rightB 3 n l = true ∧ l.Nodup := by
  obtain ⟨h1, h2⟩ := rise_up hr
  have hp := isort_perm' l
  have hlen : (isort l).length = n := by rw [isort_length]; exact hl
  have hval : ∀ (i : Nat) (z : Int), (isort l)[i]? = some z → z = i := by
    have lo : ∀ (i : Nat) (z : Int), (isort l)[i]? = some z → (i : Int) ≤ z := by
      intro i
      induction i with
      | zero => intro z hz; exact (inB_iff (List.all_eq_true.1 h1 z (List.mem_of_getElem? hz))).1
      | succ i ih =>
        intro z hz
        have hlt := (List.getElem?_eq_some_iff.1 hz).1
        obtain ⟨y, hy⟩ : ∃ y, (isort l)[i]? = some y := ⟨(isort l)[i], by simp⟩
        have := up_lt h2 i (i + 1) y z (by omega) hy hz
        have := ih y hy
        push_cast
        omega
    have hi : ∀ (k i : Nat) (z : Int), i + k = n → (isort l)[i]? = some z → z + k ≤ n := by
      intro k
      induction k with
      | zero => intro i z hk hz; have := (List.getElem?_eq_some_iff.1 hz).1; omega
      | succ k ih =>
        intro i z hk hz
        by_cases hk0 : k = 0
        · subst hk0
          have := (inB_iff (List.all_eq_true.1 h1 z (List.mem_of_getElem? hz))).2
          omega
        · obtain ⟨y, hy⟩ : ∃ y, (isort l)[i + 1]? = some y := ⟨(isort l)[i + 1], by simp⟩
          have h3 := up_lt h2 i (i + 1) z y (by omega) hz hy
          have h4 := ih (i + 1) y (by omega) hy
          push_cast
          omega
    intro i z hz
    have hlt := (List.getElem?_eq_some_iff.1 hz).1
    have h3 := lo i z hz
    have h4 := hi (n - i) i z (by omega) hz
    omega
  have hall : l.all (inB n) = true := by
    rw [List.all_eq_true] at h1 ⊢
    intro x hx
    exact h1 x (hp.mem_iff.2 hx)
  refine ⟨hall, ?_, (hp.nodup_iff).1 (up_nodup h2)⟩
  have : (seenF l (List.replicate n false)).any (fun x => !x) = false := by
    rw [List.any_eq_false]
    intro b hb
    obtain ⟨j, hj⟩ := List.mem_iff_getElem?.1 hb
    have hlt := (List.getElem?_eq_some_iff.1 hj).1
    rw [seenF_length, List.length_replicate] at hlt
    have hm : (j : Int) ∈ l := by
      obtain ⟨z, hz⟩ : ∃ z, (isort l)[j]? = some z := ⟨(isort l)[j], by simp⟩
      have := hval j z hz
      rw [← this]
      exact hp.mem_iff.1 (List.mem_of_getElem? hz)
    have := seen_get l (List.replicate n false) j (fun c hc => (inB_iff (List.all_eq_true.1 hall c hc)).1) (.inr ⟨by simpa using hlt, hm⟩)
    rw [hj] at this
    cases this
    simp
  simp [rightB, hl, this]
end Go.Proofs.YtlhjljplfmmoaaaGreatDoor.Ev
