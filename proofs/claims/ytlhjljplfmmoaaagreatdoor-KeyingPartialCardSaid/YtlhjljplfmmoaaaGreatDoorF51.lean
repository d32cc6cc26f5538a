/- keying.Score: what it computes. -/
import Derived.Test.YtlhjljplfmmoaaaGreatDoorF50
import Derived.Test.YtlhjljplfmmoaaaGreatDoorF21
import Derived.Test.YtlhjljplfmmoaaaGreatDoorF22
namespace Go.Proofs.YtlhjljplfmmoaaaGreatDoor.Ev
open Go
set_option linter.unusedSimpArgs false
set_option linter.unusedVariables false
set_option maxRecDepth 10000
set_option maxHeartbeats 4000000
def ptsI (it : It) (a : Ans) : Int :=
  if it.kind = 1 then (if a.choices[0]? = it.choices[0]? then it.pts else 0)
  else if it.kind = 2 then shareI it.pts (2 * (cntB (memB it.choices) a.choices : Int) - a.choices.length) it.choices.length
  else if it.kind = 3 then shareI it.pts (2 * (ordR (fun x => idxI x it.choices 0) a.choices : Int) - ordA a.choices) (ordA a.choices)
  else if it.kind = 4 then (if a.value - it.val ≤ it.tol ∧ it.val - a.value ≤ it.tol then it.pts else 0)
  else (if it.texts.any (eqS ⟨(Kn.normal a.text.data.toList).toArray⟩) = true then it.pts else 0)
noncomputable def scoreE (it : It) (a : Ans) : Int := if kvalidI it a = 0 then (if it.kind = 6 then 8 else 0) else kvalidI it a
noncomputable def scoreN (it : It) (a : Ans) : Int := if kvalidI it a = 0 then (if it.kind = 6 then 0 else if a.om = true then 0 else ptsI it a) else 0
structure Room (n : Nat) (it : It) (a : Ans) : Prop where
  hn : it.Fit n
  hm : it.Fit 9223372036854775807
  hz : it.choices.length * 8 ≤ 140737488351232
  ha : a.choices.length ≤ 9223372036854775806
  han : a.choices.length ≤ n
  hat : a.text.size ≤ 140737488355328
  hatn : a.text.size ≤ n
  hn10 : 10 ≤ n
theorem score0 (n : Nat) (it : It) (a : Ans) (R : Room n it a) (h : ¬ kvalidI it a = 0) : (ev Tryz.prog tab (n + 22)).callA 8 [it.pv, a.pv] = some [intP (scoreN it a), intP (scoreE it a)] := by
  have w := kvalid_ev n it a R.hn R.hm R.hz R.ha R.han R.hn10
  unfold scoreN scoreE
  rw [if_neg h, if_neg h]
  generalize kvalidI it a = V at *
  obtain ⟨id, ver, kind, stem, opts, choices, val, tol, texts, pts, cont, fam, set, words, secs, assets, rub⟩ := it
  obtain ⟨aid, ach, av, at', om⟩ := a
  simp only [It.pv, Ans.pv, intP, strP] at w
  rw [callA_fn rfl Tryz.func8 rfl rfl rfl]
  simp [-frame, Tryz.f8, It.pv, Ans.pv, intP, strP, w, h]
theorem score6 (n : Nat) (it : It) (a : Ans) (R : Room n it a) (h : kvalidI it a = 0) (hk : it.kind = 6) : (ev Tryz.prog tab (n + 22)).callA 8 [it.pv, a.pv] = some [intP (scoreN it a), intP (scoreE it a)] := by
  have w := kvalid_ev n it a R.hn R.hm R.hz R.ha R.han R.hn10
  unfold scoreN scoreE
  rw [if_pos h, if_pos h, if_pos hk, if_pos hk]
  rw [h] at w
  obtain ⟨id, ver, kind, stem, opts, choices, val, tol, texts, pts, cont, fam, set, words, secs, assets, rub⟩ := it
  obtain ⟨aid, ach, av, at', om⟩ := a
  simp only at hk
  subst hk
  simp only [It.pv, Ans.pv, intP, strP] at w
  rw [callA_fn rfl Tryz.func8 rfl rfl rfl]
  simp [-frame, Tryz.f8, It.pv, Ans.pv, intP, strP, w]
theorem scoreO (n : Nat) (it : It) (a : Ans) (R : Room n it a) (h : kvalidI it a = 0) (hk : ¬ it.kind = 6) (ho : a.om = true) : (ev Tryz.prog tab (n + 22)).callA 8 [it.pv, a.pv] = some [intP (scoreN it a), intP (scoreE it a)] := by
  have w := kvalid_ev n it a R.hn R.hm R.hz R.ha R.han R.hn10
  unfold scoreN scoreE
  rw [if_pos h, if_pos h, if_neg hk, if_neg hk, if_pos ho]
  rw [h] at w
  obtain ⟨id, ver, kind, stem, opts, choices, val, tol, texts, pts, cont, fam, set, words, secs, assets, rub⟩ := it
  obtain ⟨aid, ach, av, at', om⟩ := a
  simp only at hk ho
  subst ho
  simp only [It.pv, Ans.pv, intP, strP] at w
  rw [callA_fn rfl Tryz.func8 rfl rfl rfl]
  simp [-frame, Tryz.f8, It.pv, Ans.pv, intP, strP, w, hk]
theorem bad_not {it : It} {a : Ans} (h : kvalidI it a = 0) : validI it = 0 ∧ a.item = it.id ∧ badB it.kind a = false ∧ (a.om = true ∨ inner it.kind it.opts.length a = 0) := by
  unfold kvalidI at h
  split at h
  · rename_i hv
    split at h
    · rename_i hi
      split at h
      · simp at h
      · rename_i hb
        refine ⟨hv, hi, by simpa using hb, ?_⟩
        split at h
        · rename_i ho; exact .inl ho
        · exact .inr h
    · simp at h
  · rename_i hv; exact absurd h hv
theorem pts_range {it : It} (h : validI it = 0) : 1 ≤ it.pts ∧ it.pts ≤ 5 := by
  have := (valid_kind h).2.2.1
  simp [numbersB, withinB] at this
  omega
theorem key_of {it : It} (h : validI it = 0) : keyB it = true := by
  have h2 := (valid_kind h).2.1
  unfold fitsB at h2
  split at h2
  · simp at h2
  · split at h2
    · simp at h2
    · exact h2
theorem choices_ok {k : Int} {n : Nat} {l : List Int} (h : choicesI k n l = 0) : l.all (inB n) = true ∧ rightB k n l = true := by
  unfold choicesI at h
  split at h
  · rename_i h1
    split at h
    · rename_i h2; exact ⟨h1, h2⟩
    · simp at h
  · simp at h
theorem whole_ev2 (n : Nat) (it : It) (b : Bool) : (ev Tryz.prog tab (n + 1)).callA 20 [it.pv, .val (.bool b)] = some [intP (if b = true then it.pts else 0)] := by
  obtain ⟨id, ver, kind, stem, opts, choices, val, tol, texts, pts, cont, fam, set, words, secs, assets, rub⟩ := it
  rw [callA_fn rfl Tryz.func20 rfl rfl rfl]
  cases b <;> simp [Tryz.f20, It.pv, intP, strP]
theorem inB_iff {n : Nat} {c : Int} (h : inB n c = true) : 0 ≤ c ∧ c < n := by
  simp [inB] at h
  omega
theorem up_length {n : Nat} {l : List Int} (h1 : l.all (inB n) = true) (h2 : upB l = true) : l.length ≤ n := by
  have key : ∀ (i : Nat) (z : Int), l[i]? = some z → (i : Int) ≤ z := by
    intro i
    induction i with
    | zero => intro z hz; exact (inB_iff (List.all_eq_true.1 h1 z (List.mem_of_getElem? hz))).1
    | succ i ih =>
      intro z hz
      have hlt := (List.getElem?_eq_some_iff.1 hz).1
      obtain ⟨y, hy⟩ : ∃ y, l[i]? = some y := ⟨l[i], by simp⟩
      have := List.all_eq_true.1 h2 (i + 1) (List.mem_range.2 hlt)
      unfold upAt at this
      rw [hz, Nat.add_sub_cancel, hy] at this
      simp at this
      have := ih y hy
      omega
  by_cases h0 : l.length = 0
  · omega
  · obtain ⟨z, hz⟩ : ∃ z, l[l.length - 1]? = some z := ⟨l[l.length - 1], by simp⟩
    have h3 := key _ z hz
    have h4 := (inB_iff (List.all_eq_true.1 h1 z (List.mem_of_getElem? hz))).2
    omega
theorem rise_up {l : List Int} {n : Nat} (h : risingB l 0 ((n : Int) - 1) = true) : l.all (inB n) = true ∧ upB l = true := by
  have key : ∀ (i : Nat) (z : Int), l[i]? = some z → (0 ≤ z ∧ z ≤ (n : Int) - 1) ∧ (i = 0 ∨ ∀ y, l[i - 1]? = some y → y < z) := by
    intro i z hz
    have := List.all_eq_true.1 h i (List.mem_range.2 (List.getElem?_eq_some_iff.1 hz).1)
    unfold riseAt at this
    rw [hz] at this
    simp only [withinB, Bool.and_eq_true, decide_eq_true_eq, Bool.or_eq_true] at this
    refine ⟨this.1, ?_⟩
    rcases this.2 with h0 | h0
    · exact .inl h0
    · right
      intro y hy
      rw [hy] at h0
      simp at h0
      omega
  constructor
  · rw [List.all_eq_true]
    intro z hz
    obtain ⟨i, hi⟩ := List.mem_iff_getElem?.1 hz
    have := (key i z hi).1
    simp [inB]
    omega
  · unfold upB
    rw [List.all_eq_true]
    intro i hi
    have hlt := List.mem_range.1 hi
    obtain ⟨z, hz⟩ : ∃ z, l[i]? = some z := ⟨l[i], by simp⟩
    unfold upAt
    rcases (key i z hz).2 with h0 | h0
    · simp [h0]
    · obtain ⟨y, hy⟩ : ∃ y, l[i - 1]? = some y := ⟨l[i - 1], by simp⟩
      rw [hz, hy]
      simp [h0 y hy]
end Go.Proofs.YtlhjljplfmmoaaaGreatDoor.Ev
