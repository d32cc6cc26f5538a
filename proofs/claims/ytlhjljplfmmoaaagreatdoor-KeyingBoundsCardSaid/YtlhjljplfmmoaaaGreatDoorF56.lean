/- The score of every answer lies within bounds, and the key gets all points: in plain terms. -/
import Derived.Test.YtlhjljplfmmoaaaGreatDoorF54
namespace Go.Proofs.YtlhjljplfmmoaaaGreatDoor.Ev
open Go
set_option linter.unusedSimpArgs false
set_option linter.unusedVariables false
set_option maxRecDepth 10000
set_option maxHeartbeats 4000000
theorem norm_nf' {l : List UInt8} (h : normB l = true) : Kn.Nf l := by
  unfold normB at h
  simp only [Bool.and_eq_true, decide_eq_true_eq, List.all_eq_true, List.mem_range] at h
  obtain ⟨h1, h2⟩ := h
  have key : ∀ (i : Nat) (c : UInt8), l[i]? = some c → Kn.alnum c = true ∨ (c = 32 ∧ 0 < i ∧ i + 1 < l.length ∧ l[i - 1]? ≠ some 32) := by
    intro i c hc
    have h3 := h1 i (List.getElem?_eq_some_iff.1 hc).1
    unfold okAt at h3
    rw [hc] at h3
    simp only [Bool.or_eq_true, Bool.and_eq_true, decide_eq_true_eq, Bool.not_eq_true', decide_eq_false_iff_not] at h3
    rcases h3 with h | ⟨⟨⟨a, b⟩, c'⟩, d⟩
    · exact .inl h
    · exact .inr ⟨a, b, c', d⟩
  refine ⟨fun i c hc => ?_, ?_⟩
  · rcases key i c hc with h | ⟨a, b, _, d⟩
    · exact .inl h
    · exact .inr ⟨a, b, d⟩
  · unfold Kn.last32
    rw [beq_eq_false_iff_ne, List.getLast?_eq_getElem?]
    intro he
    rcases key _ _ he with h | ⟨_, _, h, _⟩
    · exact Kn.alnum_ne h rfl
    · omega
theorem texts_nf' {ss : List ByteArray} (h : textsB ss = true) {i : Nat} {x : ByteArray} (hx : ss[i]? = some x) : Kn.Nf x.data.toList := by
  unfold textsB at h
  simp only [Bool.and_eq_true, List.all_eq_true, List.mem_range] at h
  have h3 := h.1 i (List.getElem?_eq_some_iff.1 hx).1
  unfold textAt at h3
  rw [hx] at h3
  simp only [Bool.and_eq_true] at h3
  exact norm_nf' h3.1
theorem valid_strings {it : It} (h : validI it = 0) {x : ByteArray} (hx : x ∈ it.texts) : x.size ≤ 200 := by
  have := (valid_kind h).2.2.2.1
  unfold stringsB at this
  simp only [Bool.and_eq_true] at this
  have h2 := List.all_eq_true.1 this.2.1 x hx
  unfold optB printB at h2
  simp only [Bool.and_eq_true, withinB, decide_eq_true_eq] at h2
  have := h2.2.2
  simp at this
  omega
theorem pts_bounds {it : It} {a : Ans} (h : kvalidI it a = 0) (h6 : ¬ it.kind = 6) (ho : a.om = false) : 0 ≤ ptsI it a ∧ ptsI it a ≤ it.pts := by
  obtain ⟨hv, _, _, hinn⟩ := bad_not h
  have hkey := key_of hv
  have hpts := pts_range hv
  have hk := (valid_kind hv).1
  have hinn := hinn.resolve_left (by rw [ho]; simp)
  unfold inner at hinn
  unfold keyB at hkey
  unfold ptsI
  by_cases k1 : it.kind = 1
  · rw [if_pos k1]; split <;> omega
  rw [if_neg k1]
  by_cases k2 : it.kind = 2
  · rw [if_pos k2]
    rw [if_neg k1, if_pos k2] at hkey
    rw [if_neg (by omega), if_neg (by omega), if_neg h6] at hinn
    rw [k2] at hinn
    obtain ⟨c1, c2⟩ := choices_ok hinn
    have c3 : upB a.choices = true := by simpa [rightB] using c2
    simp only [Bool.and_eq_true, decide_eq_true_eq] at hkey
    have c4 := cntB_le (memB it.choices) a.choices
    have c5 := cntB_mem a.choices it.choices (up_nodup c3)
    exact share_bounds (by omega) (by omega) (by omega)
  rw [if_neg k2]
  by_cases k3 : it.kind = 3
  · rw [if_pos k3]
    rw [if_neg k1, if_neg k2, if_pos k3] at hkey
    rw [if_neg (by omega), if_neg (by omega), if_neg h6] at hinn
    rw [k3] at hinn
    obtain ⟨c1, c2⟩ := choices_ok hinn
    simp [rightB] at c2
    simp only [Bool.and_eq_true, decide_eq_true_eq] at hkey
    have c4 := ordR_le (fun x => idxI x it.choices 0) a.choices
    have c5 : 0 < ordA a.choices := by
      match hx : a.choices with
      | [] => rw [hx] at c2; simp at c2; omega
      | [x] => rw [hx] at c2; simp at c2; omega
      | x :: y :: t => simp [ordA]; omega
    exact share_bounds (by omega) (by omega) (by omega)
  rw [if_neg k3]
  split
  · split <;> omega
  · split <;> omega
theorem score_facts (it : It) (a : Ans) : (¬ kvalidI it a = 0 ∧ scoreE it a = kvalidI it a ∧ scoreN it a = 0) ∨ (kvalidI it a = 0 ∧ it.kind = 6 ∧ scoreE it a = 8 ∧ scoreN it a = 0) ∨
    (kvalidI it a = 0 ∧ ¬ it.kind = 6 ∧ scoreE it a = 0 ∧ 0 ≤ scoreN it a ∧ scoreN it a ≤ it.pts ∧ (a.om = true → scoreN it a = 0)) := by
  unfold scoreE scoreN
  by_cases h : kvalidI it a = 0
  · rw [if_pos h, if_pos h]
    by_cases h6 : it.kind = 6
    · rw [if_pos h6, if_pos h6]
      exact .inr (.inl ⟨h, h6, rfl, rfl⟩)
    · rw [if_neg h6, if_neg h6]
      refine .inr (.inr ⟨h, h6, rfl, ?_⟩)
      cases ho : a.om with
      | true =>
        have := pts_range (bad_not h).1
        rw [if_pos rfl]
        exact ⟨Int.le_refl _, by omega, fun _ => rfl⟩
      | false =>
        rw [if_neg (by simp)]
        have := pts_bounds h h6 ho
        exact ⟨this.1, this.2, fun hc => by simp at hc⟩
  · rw [if_neg h, if_neg h]
    exact .inl ⟨h, rfl, rfl⟩
theorem empty_nil : emptyS ⟨#[]⟩ = true := by simp [emptyS]
theorem key_facts {it : It} (hv : validI it = 0) (h6 : ¬ it.kind = 6) : kvalidI it (ansK it) = 0 ∧ scoreE it (ansK it) = 0 ∧ scoreN it (ansK it) = it.pts := by
  have hkey := key_of hv
  have hk := (valid_kind hv).1
  have hfits := (valid_kind hv).2.1
  have hom : (ansK it).om = false := by unfold ansK; split <;> (try split) <;> rfl
  have hid : (ansK it).item = it.id := by unfold ansK; split <;> (try split) <;> rfl
  unfold keyB at hkey
  have main : badB it.kind (ansK it) = false ∧ inner it.kind it.opts.length (ansK it) = 0 ∧ ptsI it (ansK it) = it.pts := by
    have h5 : it.kind = 1 ∨ it.kind = 2 ∨ it.kind = 3 ∨ it.kind = 4 ∨ it.kind = 5 := by omega
    rcases h5 with h1 | h1 | h1 | h1 | h1
    · rw [if_pos h1] at hkey
      simp only [Bool.and_eq_true, decide_eq_true_eq] at hkey
      have ha : ansK it = ⟨it.id, it.choices, 0, ⟨#[]⟩, false⟩ := by unfold ansK; rw [if_neg (by omega), if_neg (by omega)]
      obtain ⟨c1, c2⟩ := rise_up hkey.2
      rw [ha]
      refine ⟨?_, ?_, ?_⟩
      · simp [badB, empty_nil, h1, show chosenB 1 = true from rfl]
      · unfold inner choicesI
        rw [if_neg (by omega), if_neg (by omega), if_neg h6, h1, if_pos c1, if_pos (by simp [rightB]; omega)]
      · unfold ptsI
        rw [if_pos h1, if_pos rfl]
    · rw [if_neg (by omega), if_pos h1] at hkey
      simp only [Bool.and_eq_true, decide_eq_true_eq] at hkey
      have ha : ansK it = ⟨it.id, it.choices, 0, ⟨#[]⟩, false⟩ := by unfold ansK; rw [if_neg (by omega), if_neg (by omega)]
      obtain ⟨c1, c2⟩ := rise_up hkey.2
      rw [ha]
      refine ⟨?_, ?_, ?_⟩
      · simp [badB, empty_nil, h1, show chosenB 2 = true from rfl]
      · unfold inner choicesI
        rw [if_neg (by omega), if_neg (by omega), if_neg h6, h1, if_pos c1, if_pos (by simp [rightB, c2])]
      · unfold ptsI
        rw [if_neg (by omega), if_pos h1]
        have : cntB (memB it.choices) it.choices = it.choices.length := cnt_all fun x hx => hx
        simp only
        rw [this, show (2 * (it.choices.length : Int) - it.choices.length) = it.choices.length by omega]
        exact share_full (by omega)
    · rw [if_neg (by omega), if_neg (by omega), if_pos h1] at hkey
      simp only [Bool.and_eq_true, decide_eq_true_eq] at hkey
      have ha : ansK it = ⟨it.id, it.choices, 0, ⟨#[]⟩, false⟩ := by unfold ansK; rw [if_neg (by omega), if_neg (by omega)]
      obtain ⟨c1, c2, c3⟩ := perm_seen hkey.2 hkey.1.2
      rw [ha]
      refine ⟨?_, ?_, ?_⟩
      · simp [badB, empty_nil, h1, show chosenB 3 = true from rfl]
      · unfold inner choicesI
        rw [if_neg (by omega), if_neg (by omega), if_neg h6, h1, if_pos c1, if_pos c2]
      · unfold ptsI
        rw [if_neg (by omega), if_neg (by omega), if_pos h1]
        have hR : ordR (fun x => idxI x it.choices 0) it.choices = ordA it.choices := ordR_all fun i j x y hij hx hy => by
          show idxI x it.choices 0 < idxI y it.choices 0
          rw [idxI_first _ _ _ _ c3 hx, idxI_first _ _ _ _ c3 hy]
          omega
        have hA : 0 < ordA it.choices := by
          match hx : it.choices with
          | [] => rw [hx] at hkey; simp at hkey; omega
          | [x] => rw [hx] at hkey; simp at hkey; omega
          | x :: y :: t => simp [ordA]; omega
        simp only
        rw [hR, show (2 * (ordA it.choices : Int) - ordA it.choices) = ordA it.choices by omega]
        exact share_full (by omega)
    · rw [if_neg (by omega), if_neg (by omega), if_neg (by omega), if_pos h1] at hkey
      simp only [withinB, Bool.and_eq_true, decide_eq_true_eq] at hkey
      have ha : ansK it = ⟨it.id, [], it.val, ⟨#[]⟩, false⟩ := by unfold ansK; rw [if_pos h1]
      rw [ha]
      refine ⟨?_, ?_, ?_⟩
      · simp [badB, empty_nil, h1]
      · unfold inner
        rw [if_pos h1, if_neg (by show ¬ (it.val < -9999999 ∨ 9999999 < it.val); omega)]
      · unfold ptsI
        rw [if_neg (by omega), if_neg (by omega), if_neg (by omega), if_pos h1, if_pos (by show it.val - it.val ≤ it.tol ∧ it.val - it.val ≤ it.tol; omega)]
    · rw [if_neg (by omega), if_neg (by omega), if_neg (by omega), if_neg (by omega), if_pos h1] at hkey
      obtain ⟨x, t, hx⟩ : ∃ x t, it.texts = x :: t := by
        cases hx : it.texts with
        | nil => rw [hx] at hkey; simp [textsB] at hkey
        | cons x t => exact ⟨x, t, rfl⟩
      have ha : ansK it = ⟨it.id, [], 0, x, false⟩ := by unfold ansK; rw [if_neg (by omega), if_pos h1, hx]; rfl
      have hxm : x ∈ it.texts := by rw [hx]; exact List.mem_cons_self
      have hxs := valid_strings hv hxm
      have hnf : Kn.Nf x.data.toList := texts_nf' hkey (i := 0) (by rw [hx]; rfl)
      rw [ha]
      refine ⟨?_, ?_, ?_⟩
      · simp [badB, h1, show writtenC 5 = true from rfl]
      · unfold inner
        rw [if_neg (by omega), if_pos h1, if_neg (by show ¬ 200 < x.size; omega)]
      · unfold ptsI
        rw [if_neg (by omega), if_neg (by omega), if_neg (by omega), if_neg (by omega), if_pos ?_]
        show it.texts.any (eqS ⟨(Kn.normal x.data.toList).toArray⟩) = true
        rw [Kn.normal_self hnf, List.any_eq_true]
        exact ⟨x, hxm, by simp [eqS]⟩
  obtain ⟨m1, m2, m3⟩ := main
  have hkv : kvalidI it (ansK it) = 0 := by
    unfold kvalidI
    rw [if_pos hv, if_pos hid, if_neg (by rw [m1]; simp), if_neg (by rw [hom]; simp), m2]
  refine ⟨hkv, ?_, ?_⟩
  · unfold scoreE; rw [if_pos hkv, if_neg h6]
  · unfold scoreN; rw [if_pos hkv, if_neg h6, if_neg (by rw [hom]; simp), m3]
end Go.Proofs.YtlhjljplfmmoaaaGreatDoor.Ev
