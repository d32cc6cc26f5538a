/- The law KeyingBounds, evaluated. -/
import Derived.Test.YtlhjljplfmmoaaaGreatDoorF53
namespace Go.Proofs.YtlhjljplfmmoaaaGreatDoor.Ev
open Go
set_option linter.unusedSimpArgs false
set_option linter.unusedVariables false
set_option maxRecDepth 10000
set_option maxHeartbeats 4000000
theorem sz27y : zeroT Tryz.prog 27 = some (.agg [.val (.int .i64 0), .nil, .val (.int .i64 0), .val (.string ⟨#[]⟩), .val (.bool false)]) := by kernel_rfl
attribute [local simp] sz27y
theorem bounds_core (n : Nat) (id ver kind val tol pts fam set words secs rub : Int) (stem cont : ByteArray) (opts texts : List ByteArray) (choices assets : List Int) (aid av : Int) (ach : List Int) (at' : ByteArray) (om : Bool) (rid rv : Int) (rch : List Int) (rt : ByteArray) (ro : Bool) (N E F G V : Int) (it a r : PV)
    (hit : it = It.pv ⟨id, ver, kind, stem, opts, choices, val, tol, texts, pts, cont, fam, set, words, secs, assets, rub⟩) (ha : a = Ans.pv ⟨aid, ach, av, at', om⟩) (hr : r = Ans.pv ⟨rid, rch, rv, rt, ro⟩)
    (w8 : (ev Tryz.prog tab n).callA 8 [it, a] = some [intP N, intP E]) (w12 : (ev Tryz.prog tab n).callA 12 [it, a] = some [intP F]) (w10 : (ev Tryz.prog tab n).callA 10 [it] = some [r, intP G]) (w16 : (ev Tryz.prog tab n).callA 16 [it] = some [intP V]) (w15 : (ev Tryz.prog tab n).callA 15 [] = some [.val (.bool true)])
    (hs : ¬ G = 0 → (ev Tryz.prog tab n).callA 14 [r, ansZ.pv] = some [.val (.bool true)])
    (hg : G = 0 → (ev Tryz.prog tab n).callA 8 [it, r] = some [intP pts, intP 0] ∧ (ev Tryz.prog tab n).callA 12 [it, r] = some [intP 0])
    (hGV : ¬ G = 0 → ¬ V = 0 ∨ kind = 6)
    (hF : (¬ F = 0 ∧ E = F ∧ N = 0) ∨ (F = 0 ∧ kind = 6 ∧ E = 8 ∧ N = 0) ∨ (F = 0 ∧ ¬ kind = 6 ∧ E = 0 ∧ 0 ≤ N ∧ N ≤ pts ∧ (om = true → N = 0))) :
    (ev Tryz.prog tab (n + 1)).callA 4 [it, a] = some [.val (.bool true)] := by
  have sec : (G = 0 ∧ (ev Tryz.prog tab n).callA 8 [it, r] = some [intP pts, intP 0] ∧ (ev Tryz.prog tab n).callA 12 [it, r] = some [intP 0]) ∨ (¬ G = 0 ∧ (ev Tryz.prog tab n).callA 14 [r, ansZ.pv] = some [.val (.bool true)] ∧ (¬ V = 0 ∨ kind = 6)) := by
    by_cases h : G = 0
    · exact .inl ⟨h, hg h⟩
    · exact .inr ⟨h, hs h, hGV h⟩
  clear hs hg hGV
  subst hit
  subst ha
  subst hr
  simp only [It.pv, Ans.pv, ansZ, intP, strP, List.map_nil] at w8 w12 w10 w16 sec
  rw [callA_fn rfl Tryz.func4 rfl rfl rfl]
  rcases hF with ⟨f1, rfl, rfl⟩ | ⟨rfl, rfl, rfl, rfl⟩ | ⟨rfl, f2, rfl, f3, f4, f5⟩
  · rcases sec with ⟨rfl, s1, s2⟩ | ⟨g0, s1, s2⟩
    · simp [-frame, Tryz.f4, It.pv, Ans.pv, intP, strP, w8, w12, w10, w16, w15, f1, s1, s2]
    · by_cases hV : V = 0
      · have hk : kind = 6 := s2.resolve_left (by simp [hV])
        subst hk
        simp [-frame, Tryz.f4, It.pv, Ans.pv, intP, strP, w8, w12, w10, w16, w15, f1, g0, s1, hV]
      · simp [-frame, Tryz.f4, It.pv, Ans.pv, intP, strP, w8, w12, w10, w16, w15, f1, g0, s1, hV]
  · rcases sec with ⟨rfl, s1, s2⟩ | ⟨g0, s1, s2⟩
    · simp [-frame, Tryz.f4, It.pv, Ans.pv, intP, strP, w8, w12, w10, w16, w15, s1, s2]
    · by_cases hV : V = 0
      · simp [-frame, Tryz.f4, It.pv, Ans.pv, intP, strP, w8, w12, w10, w16, w15, g0, s1, hV]
      · simp [-frame, Tryz.f4, It.pv, Ans.pv, intP, strP, w8, w12, w10, w16, w15, g0, s1, hV]
  · rcases sec with ⟨rfl, s1, s2⟩ | ⟨g0, s1, s2⟩
    · cases om with
      | true =>
        have f5 := f5 rfl
        subst f5
        simp [-frame, Tryz.f4, It.pv, Ans.pv, intP, strP, w8, w12, w10, w16, w15, s1, s2, f2, show ¬ pts < 0 by omega]
      | false =>
        simp [-frame, Tryz.f4, It.pv, Ans.pv, intP, strP, w8, w12, w10, w16, w15, s1, s2, f2, show ¬ N < 0 by omega, show ¬ pts < N by omega]
    · have hV : ¬ V = 0 := s2.resolve_right f2
      cases om with
      | true =>
        have f5 := f5 rfl
        subst f5
        simp [-frame, Tryz.f4, It.pv, Ans.pv, intP, strP, w8, w12, w10, w16, w15, s1, g0, hV, f2, show ¬ pts < 0 by omega]
      | false =>
        simp [-frame, Tryz.f4, It.pv, Ans.pv, intP, strP, w8, w12, w10, w16, w15, s1, g0, hV, f2, show ¬ N < 0 by omega, show ¬ pts < N by omega]
end Go.Proofs.YtlhjljplfmmoaaaGreatDoor.Ev
