/- keying.Score, keying.Right: what they compute. -/
import Derived.Test.YtlhjljplfmmoaaaGreatDoorF52
namespace Go.Proofs.YtlhjljplfmmoaaaGreatDoor.Ev
open Go
set_option linter.unusedSimpArgs false
set_option linter.unusedVariables false
set_option maxRecDepth 10000
set_option maxHeartbeats 4000000
theorem sz27z : zeroT Tryz.prog 27 = some (.agg [.val (.int .i64 0), .nil, .val (.int .i64 0), .val (.string ⟨#[]⟩), .val (.bool false)]) := by kernel_rfl
attribute [local simp] sz27z
theorem score_ev (n : Nat) (it : It) (a : Ans) (R : Room n it a) : (ev Tryz.prog tab (n + 22)).callA 8 [it.pv, a.pv] = some [intP (scoreN it a), intP (scoreE it a)] := by
  by_cases h : kvalidI it a = 0
  · have hk := (valid_kind (bad_not h).1).1
    by_cases h6 : it.kind = 6
    · exact score6 n it a R h h6
    · cases ho : a.om with
      | true => exact scoreO n it a R h h6 ho
      | false =>
        have h5 : it.kind = 1 ∨ it.kind = 2 ∨ it.kind = 3 ∨ it.kind = 4 ∨ it.kind = 5 := by omega
        rcases h5 with h1 | h1 | h1 | h1 | h1
        · exact scoreK1 n it a R h ho h1
        · exact scoreK2 n it a R h ho h1
        · exact scoreK3 n it a R h ho h1
        · exact scoreK4 n it a R h ho h1
        · exact scoreK5 n it a R h ho h1
  · exact score0 n it a R h
theorem clone_ev (n : Nat) (z : Int) (t : List Int) (h : (z :: t).length * 8 ≤ 140737488351232) : (ev Tryz.prog tab (n + 1)).callA 28 [.sl ((z :: t).map intP)] = some [.sl ((z :: t).map intP)] := by
  have hq : ∀ z : Int, intP z = .val (.int .i64 z) := fun _ => rfl
  have hs := sized_int t
  simp only [List.length_cons] at h
  have htk : List.take t.length (t.map intP) = t.map intP := List.take_of_length_le (by simp)
  rw [callA_fn rfl Tryz.func28 rfl rfl rfl]
  simp [-frame_eq, Tryz.f28, hq, hs, htk, show t.length + 1 ≤ 9223372036854775807 by omega, show t.length ≤ 9223372036854775806 by omega, show (t.length + 1) * 8 ≤ 140737488355328 by omega]
def ansZ : Ans := ⟨0, [], 0, ⟨#[]⟩, false⟩
def ansK (it : It) : Ans :=
  if it.kind = 4 then ⟨it.id, [], it.val, ⟨#[]⟩, false⟩
  else if it.kind = 5 then ⟨it.id, [], 0, it.texts[0]?.getD ⟨#[]⟩, false⟩
  else ⟨it.id, it.choices, 0, ⟨#[]⟩, false⟩
noncomputable def rightA (it : It) : Ans := if validI it = 0 then (if it.kind = 6 then ansZ else ansK it) else ansZ
noncomputable def rightE (it : It) : Int := if validI it = 0 then (if it.kind = 6 then 8 else 0) else validI it
theorem right_ev (n : Nat) (it : It) (hn : it.Fit n) (hm : it.Fit 9223372036854775807) (hz : it.choices.length * 8 ≤ 140737488351232) : (ev Tryz.prog tab (n + 21)).callA 10 [it.pv] = some [(rightA it).pv, intP (rightE it)] := by
  have w := valid_ev n it hn hm hz
  by_cases hv : validI it = 0
  · have hkey := key_of hv
    have hk := (valid_kind hv).1
    unfold rightA rightE
    rw [if_pos hv, if_pos hv]
    rw [hv] at w
    unfold keyB at hkey
    have wc : it.choices ≠ [] → (ev Tryz.prog tab (n + 20)).callA 28 [.sl (it.choices.map intP)] = some [.sl (it.choices.map intP)] := fun hne => by
      match hx : it.choices, hne with
      | z :: t, _ => exact clone_ev (n + 19) z t (by rw [← hx]; exact hz)
    obtain ⟨id, ver, kind, stem, opts, choices, val, tol, texts, pts, cont, fam, set, words, secs, assets, rub⟩ := it
    simp only [It.pv, intP, strP] at w
    simp only at hk hkey wc
    have h6 : kind = 1 ∨ kind = 2 ∨ kind = 3 ∨ kind = 4 ∨ kind = 5 ∨ kind = 6 := by omega
    rcases h6 with h1 | h1 | h1 | h1 | h1 | h1
    · subst h1
      simp at hkey
      have wc := wc (by rintro rfl; simp at hkey)
      rw [callA_fn rfl Tryz.func10 rfl rfl rfl]
      simp [-frame, Tryz.f10, It.pv, Ans.pv, ansK, intP, strP, w, wc]
    · subst h1
      simp at hkey
      have wc := wc (by rintro rfl; simp at hkey)
      rw [callA_fn rfl Tryz.func10 rfl rfl rfl]
      simp [-frame, Tryz.f10, It.pv, Ans.pv, ansK, intP, strP, w, wc]
    · subst h1
      simp at hkey
      have wc := wc (by rintro rfl; simp at hkey; omega)
      rw [callA_fn rfl Tryz.func10 rfl rfl rfl]
      simp [-frame, Tryz.f10, It.pv, Ans.pv, ansK, intP, strP, w, wc]
    · subst h1
      rw [callA_fn rfl Tryz.func10 rfl rfl rfl]
      simp [-frame, Tryz.f10, It.pv, Ans.pv, ansK, intP, strP, w]
    · subst h1
      simp [textsB] at hkey
      obtain ⟨x, t, rfl⟩ : ∃ x t, texts = x :: t := by
        cases texts with
        | nil => simp at hkey
        | cons x t => exact ⟨x, t, rfl⟩
      simp only [List.map_cons, strP] at w
      rw [callA_fn rfl Tryz.func10 rfl rfl rfl]
      simp [-frame, Tryz.f10, It.pv, Ans.pv, ansK, intP, strP, w]
    · subst h1
      rw [callA_fn rfl Tryz.func10 rfl rfl rfl]
      simp [-frame, Tryz.f10, It.pv, Ans.pv, ansZ, intP, strP, w]
  · unfold rightA rightE
    rw [if_neg hv, if_neg hv]
    generalize validI it = V at *
    obtain ⟨id, ver, kind, stem, opts, choices, val, tol, texts, pts, cont, fam, set, words, secs, assets, rub⟩ := it
    simp only [It.pv, intP, strP] at w
    rw [callA_fn rfl Tryz.func10 rfl rfl rfl]
    simp [-frame, Tryz.f10, It.pv, Ans.pv, ansZ, intP, strP, w, hv]
theorem same_zero (n : Nat) : (ev Tryz.prog tab (n + 2)).callA 14 [ansZ.pv, ansZ.pv] = some [.val (.bool true)] := by kernel_rfl
end Go.Proofs.YtlhjljplfmmoaaaGreatDoor.Ev
