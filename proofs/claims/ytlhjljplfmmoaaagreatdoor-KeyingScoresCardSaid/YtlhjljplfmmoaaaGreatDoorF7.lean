/- content.segments, content.Valid: they come back. -/
import Derived.Test.YtlhjljplfmmoaaaGreatDoorF6
namespace Go.Proofs.YtlhjljplfmmoaaaGreatDoor.Ev
open Go
set_option linter.unusedSimpArgs false
set_option linter.unusedVariables false
set_option maxRecDepth 10000
set_option maxHeartbeats 4000000
theorem sz119 : sizeT Tryz.prog 119 = some 5 := by kernel_rfl
theorem ze119 : zeroT Tryz.prog 119 = some (.agg [.val (.string ⟨#[]⟩), .val (.string ⟨#[]⟩), .val (.string ⟨#[]⟩), .val (.string ⟨#[]⟩), .val (.string ⟨#[]⟩)]) := by kernel_rfl
attribute [local simp] sz119 ze119 Tryz.underlying119 indexAddrTV
theorem segments_ev (s : ByteArray) (hs : s.size ≤ 9223372036854775807) :
    ∃ a b c d e k, 0 ≤ k ∧ k ≤ 5 ∧ ∀ m, (ev Tryz.prog tab (m + 12)).callA 97 [strP s] = some [.agg [strP a, strP b, strP c, strP d, strP e], intP k] := by
  obtain ⟨a, y, b, _, hy, g1⟩ := cut_ev s 46 hs
  obtain ⟨a2, y2, b2, _, hy2, g2⟩ := cut_ev y 46 (by omega)
  obtain ⟨a3, y3, b3, _, hy3, g3⟩ := cut_ev y2 46 (by omega)
  obtain ⟨a4, y4, b4, _, hy4, g4⟩ := cut_ev y3 46 (by omega)
  obtain ⟨a5, y5, b5, _, hy5, g5⟩ := cut_ev y4 46 (by omega)
  have z0 : IntKind.i64.wrap 1 = 1 := by kernel_rfl
  have z1 : IntKind.i64.wrap 2 = 2 := by kernel_rfl
  have z2 : IntKind.i64.wrap 3 = 3 := by kernel_rfl
  have z3 : IntKind.i64.wrap 4 = 4 := by kernel_rfl
  have z4 : IntKind.i64.wrap 5 = 5 := by kernel_rfl
  cases b with
  | false =>
    refine ⟨a, ⟨#[]⟩, ⟨#[]⟩, ⟨#[]⟩, ⟨#[]⟩, 1, by decide, by decide, fun m => ?_⟩
    have g1 := g1 (m + 6); have g2 := g2 (m + 6); have g3 := g3 (m + 6); have g4 := g4 (m + 6); have g5 := g5 (m + 6)
    simp only [strP] at g1 g2 g3 g4 g5
    rw [callA_fn rfl Tryz.func97 rfl rfl rfl]
    simp [Tryz.f97, strP, intP, loop_succ, g1, z0]
  | true =>
    cases b2 with
    | false =>
      refine ⟨a, a2, ⟨#[]⟩, ⟨#[]⟩, ⟨#[]⟩, 2, by decide, by decide, fun m => ?_⟩
      have g1 := g1 (m + 6); have g2 := g2 (m + 6); have g3 := g3 (m + 6); have g4 := g4 (m + 6); have g5 := g5 (m + 6)
      simp only [strP] at g1 g2 g3 g4 g5
      rw [callA_fn rfl Tryz.func97 rfl rfl rfl]
      simp [Tryz.f97, strP, intP, loop_succ, g1, g2, z0, z1]
    | true =>
      cases b3 with
      | false =>
        refine ⟨a, a2, a3, ⟨#[]⟩, ⟨#[]⟩, 3, by decide, by decide, fun m => ?_⟩
        have g1 := g1 (m + 6); have g2 := g2 (m + 6); have g3 := g3 (m + 6); have g4 := g4 (m + 6); have g5 := g5 (m + 6)
        simp only [strP] at g1 g2 g3 g4 g5
        rw [callA_fn rfl Tryz.func97 rfl rfl rfl]
        simp [Tryz.f97, strP, intP, loop_succ, g1, g2, g3, z0, z1, z2]
      | true =>
        cases b4 with
        | false =>
          refine ⟨a, a2, a3, a4, ⟨#[]⟩, 4, by decide, by decide, fun m => ?_⟩
          have g1 := g1 (m + 6); have g2 := g2 (m + 6); have g3 := g3 (m + 6); have g4 := g4 (m + 6); have g5 := g5 (m + 6)
          simp only [strP] at g1 g2 g3 g4 g5
          rw [callA_fn rfl Tryz.func97 rfl rfl rfl]
          simp [Tryz.f97, strP, intP, loop_succ, g1, g2, g3, g4, z0, z1, z2, z3]
        | true =>
          cases b5 with
          | false =>
            refine ⟨a, a2, a3, a4, a5, 5, by decide, by decide, fun m => ?_⟩
            have g1 := g1 (m + 6); have g2 := g2 (m + 6); have g3 := g3 (m + 6); have g4 := g4 (m + 6); have g5 := g5 (m + 6)
            simp only [strP] at g1 g2 g3 g4 g5
            rw [callA_fn rfl Tryz.func97 rfl rfl rfl]
            simp [Tryz.f97, strP, intP, loop_succ, g1, g2, g3, g4, g5, z0, z1, z2, z3, z4]
          | true =>
            refine ⟨a, a2, a3, a4, a5, 0, by decide, by decide, fun m => ?_⟩
            have g1 := g1 (m + 6); have g2 := g2 (m + 6); have g3 := g3 (m + 6); have g4 := g4 (m + 6); have g5 := g5 (m + 6)
            simp only [strP] at g1 g2 g3 g4 g5
            rw [callA_fn rfl Tryz.func97 rfl rfl rfl]
            simp [Tryz.f97, strP, intP, loop_succ, g1, g2, g3, g4, g5, z0, z1, z2, z3, z4]
theorem content_ev (s : ByteArray) (hs : s.size ≤ 9223372036854775807) : ∃ b, ∀ m, (ev Tryz.prog tab (m + 15)).callA 68 [strP s] = some [.val (.bool b)] := by
  by_cases g1 : 24 < (s.size : Int)
  · refine ⟨false, fun m => ?_⟩
    rw [callA_fn rfl Tryz.func68 rfl rfl rfl]
    simp [Tryz.f68, strP, g1]
  obtain ⟨a, b, c, d, e, k, h0, h5, g⟩ := segments_ev s hs
  have wa := fun m => word_ev (m + 13) a _ rfl (by omega)
  have wb := fun m => word_ev (m + 13) b _ rfl (by omega)
  have wc := fun m => word_ev (m + 13) c _ rfl (by omega)
  have wd := fun m => word_ev (m + 13) d _ rfl (by omega)
  have we := fun m => word_ev (m + 13) e _ rfl (by omega)
  have z0 : IntKind.i64.wrap 1 = 1 := by kernel_rfl
  have z1 : IntKind.i64.wrap 2 = 2 := by kernel_rfl
  have z2 : IntKind.i64.wrap 3 = 3 := by kernel_rfl
  have z3 : IntKind.i64.wrap 4 = 4 := by kernel_rfl
  have z4 : IntKind.i64.wrap 5 = 5 := by kernel_rfl
  have hk : k = 0 ∨ k = 1 ∨ k = 2 ∨ k = 3 ∨ k = 4 ∨ k = 5 := by omega
  rcases hk with rfl | rfl | rfl | rfl | rfl | rfl
  · refine ⟨false, fun m => ?_⟩
    have g := g (m + 2); have wa := wa m; have wb := wb m; have wc := wc m; have wd := wd m; have we := we m
    simp only [strP, intP] at g wa wb wc wd we
    rw [callA_fn rfl Tryz.func68 rfl rfl rfl]
    simp [Tryz.f68, strP, g1, g, loop_succ, z0, z1, z2, z3, z4]
  · cases ha : wordB a.data.toList with
    | false =>
      simp only [ha] at wa
      refine ⟨false, fun m => ?_⟩
      have g := g (m + 2); have wa := wa m; have wb := wb m; have wc := wc m; have wd := wd m; have we := we m
      simp only [strP, intP] at g wa wb wc wd we
      rw [callA_fn rfl Tryz.func68 rfl rfl rfl]
      simp [Tryz.f68, strP, g1, g, loop_succ, z0, z1, z2, z3, z4, wa]
    | true =>
      simp only [ha] at wa
      refine ⟨true, fun m => ?_⟩
      have g := g (m + 2); have wa := wa m; have wb := wb m; have wc := wc m; have wd := wd m; have we := we m
      simp only [strP, intP] at g wa wb wc wd we
      rw [callA_fn rfl Tryz.func68 rfl rfl rfl]
      simp [Tryz.f68, strP, g1, g, loop_succ, z0, z1, z2, z3, z4, wa]
  · cases ha : wordB a.data.toList with
    | false =>
      simp only [ha] at wa
      refine ⟨false, fun m => ?_⟩
      have g := g (m + 2); have wa := wa m; have wb := wb m; have wc := wc m; have wd := wd m; have we := we m
      simp only [strP, intP] at g wa wb wc wd we
      rw [callA_fn rfl Tryz.func68 rfl rfl rfl]
      simp [Tryz.f68, strP, g1, g, loop_succ, z0, z1, z2, z3, z4, wa]
    | true =>
      simp only [ha] at wa
      cases hb : wordB b.data.toList with
      | false =>
        simp only [hb] at wb
        refine ⟨false, fun m => ?_⟩
        have g := g (m + 2); have wa := wa m; have wb := wb m; have wc := wc m; have wd := wd m; have we := we m
        simp only [strP, intP] at g wa wb wc wd we
        rw [callA_fn rfl Tryz.func68 rfl rfl rfl]
        simp [Tryz.f68, strP, g1, g, loop_succ, z0, z1, z2, z3, z4, wa, wb]
      | true =>
        simp only [hb] at wb
        refine ⟨true, fun m => ?_⟩
        have g := g (m + 2); have wa := wa m; have wb := wb m; have wc := wc m; have wd := wd m; have we := we m
        simp only [strP, intP] at g wa wb wc wd we
        rw [callA_fn rfl Tryz.func68 rfl rfl rfl]
        simp [Tryz.f68, strP, g1, g, loop_succ, z0, z1, z2, z3, z4, wa, wb]
  · cases ha : wordB a.data.toList with
    | false =>
      simp only [ha] at wa
      refine ⟨false, fun m => ?_⟩
      have g := g (m + 2); have wa := wa m; have wb := wb m; have wc := wc m; have wd := wd m; have we := we m
      simp only [strP, intP] at g wa wb wc wd we
      rw [callA_fn rfl Tryz.func68 rfl rfl rfl]
      simp [Tryz.f68, strP, g1, g, loop_succ, z0, z1, z2, z3, z4, wa]
    | true =>
      simp only [ha] at wa
      cases hb : wordB b.data.toList with
      | false =>
        simp only [hb] at wb
        refine ⟨false, fun m => ?_⟩
        have g := g (m + 2); have wa := wa m; have wb := wb m; have wc := wc m; have wd := wd m; have we := we m
        simp only [strP, intP] at g wa wb wc wd we
        rw [callA_fn rfl Tryz.func68 rfl rfl rfl]
        simp [Tryz.f68, strP, g1, g, loop_succ, z0, z1, z2, z3, z4, wa, wb]
      | true =>
        simp only [hb] at wb
        cases hc : wordB c.data.toList with
        | false =>
          simp only [hc] at wc
          refine ⟨false, fun m => ?_⟩
          have g := g (m + 2); have wa := wa m; have wb := wb m; have wc := wc m; have wd := wd m; have we := we m
          simp only [strP, intP] at g wa wb wc wd we
          rw [callA_fn rfl Tryz.func68 rfl rfl rfl]
          simp [Tryz.f68, strP, g1, g, loop_succ, z0, z1, z2, z3, z4, wa, wb, wc]
        | true =>
          simp only [hc] at wc
          refine ⟨true, fun m => ?_⟩
          have g := g (m + 2); have wa := wa m; have wb := wb m; have wc := wc m; have wd := wd m; have we := we m
          simp only [strP, intP] at g wa wb wc wd we
          rw [callA_fn rfl Tryz.func68 rfl rfl rfl]
          simp [Tryz.f68, strP, g1, g, loop_succ, z0, z1, z2, z3, z4, wa, wb, wc]
  · cases ha : wordB a.data.toList with
    | false =>
      simp only [ha] at wa
      refine ⟨false, fun m => ?_⟩
      have g := g (m + 2); have wa := wa m; have wb := wb m; have wc := wc m; have wd := wd m; have we := we m
      simp only [strP, intP] at g wa wb wc wd we
      rw [callA_fn rfl Tryz.func68 rfl rfl rfl]
      simp [Tryz.f68, strP, g1, g, loop_succ, z0, z1, z2, z3, z4, wa]
    | true =>
      simp only [ha] at wa
      cases hb : wordB b.data.toList with
      | false =>
        simp only [hb] at wb
        refine ⟨false, fun m => ?_⟩
        have g := g (m + 2); have wa := wa m; have wb := wb m; have wc := wc m; have wd := wd m; have we := we m
        simp only [strP, intP] at g wa wb wc wd we
        rw [callA_fn rfl Tryz.func68 rfl rfl rfl]
        simp [Tryz.f68, strP, g1, g, loop_succ, z0, z1, z2, z3, z4, wa, wb]
      | true =>
        simp only [hb] at wb
        cases hc : wordB c.data.toList with
        | false =>
          simp only [hc] at wc
          refine ⟨false, fun m => ?_⟩
          have g := g (m + 2); have wa := wa m; have wb := wb m; have wc := wc m; have wd := wd m; have we := we m
          simp only [strP, intP] at g wa wb wc wd we
          rw [callA_fn rfl Tryz.func68 rfl rfl rfl]
          simp [Tryz.f68, strP, g1, g, loop_succ, z0, z1, z2, z3, z4, wa, wb, wc]
        | true =>
          simp only [hc] at wc
          cases hd : wordB d.data.toList with
          | false =>
            simp only [hd] at wd
            refine ⟨false, fun m => ?_⟩
            have g := g (m + 2); have wa := wa m; have wb := wb m; have wc := wc m; have wd := wd m; have we := we m
            simp only [strP, intP] at g wa wb wc wd we
            rw [callA_fn rfl Tryz.func68 rfl rfl rfl]
            simp [Tryz.f68, strP, g1, g, loop_succ, z0, z1, z2, z3, z4, wa, wb, wc, wd]
          | true =>
            simp only [hd] at wd
            refine ⟨true, fun m => ?_⟩
            have g := g (m + 2); have wa := wa m; have wb := wb m; have wc := wc m; have wd := wd m; have we := we m
            simp only [strP, intP] at g wa wb wc wd we
            rw [callA_fn rfl Tryz.func68 rfl rfl rfl]
            simp [Tryz.f68, strP, g1, g, loop_succ, z0, z1, z2, z3, z4, wa, wb, wc, wd]
  · cases ha : wordB a.data.toList with
    | false =>
      simp only [ha] at wa
      refine ⟨false, fun m => ?_⟩
      have g := g (m + 2); have wa := wa m; have wb := wb m; have wc := wc m; have wd := wd m; have we := we m
      simp only [strP, intP] at g wa wb wc wd we
      rw [callA_fn rfl Tryz.func68 rfl rfl rfl]
      simp [Tryz.f68, strP, g1, g, loop_succ, z0, z1, z2, z3, z4, wa]
    | true =>
      simp only [ha] at wa
      cases hb : wordB b.data.toList with
      | false =>
        simp only [hb] at wb
        refine ⟨false, fun m => ?_⟩
        have g := g (m + 2); have wa := wa m; have wb := wb m; have wc := wc m; have wd := wd m; have we := we m
        simp only [strP, intP] at g wa wb wc wd we
        rw [callA_fn rfl Tryz.func68 rfl rfl rfl]
        simp [Tryz.f68, strP, g1, g, loop_succ, z0, z1, z2, z3, z4, wa, wb]
      | true =>
        simp only [hb] at wb
        cases hc : wordB c.data.toList with
        | false =>
          simp only [hc] at wc
          refine ⟨false, fun m => ?_⟩
          have g := g (m + 2); have wa := wa m; have wb := wb m; have wc := wc m; have wd := wd m; have we := we m
          simp only [strP, intP] at g wa wb wc wd we
          rw [callA_fn rfl Tryz.func68 rfl rfl rfl]
          simp [Tryz.f68, strP, g1, g, loop_succ, z0, z1, z2, z3, z4, wa, wb, wc]
        | true =>
          simp only [hc] at wc
          cases hd : wordB d.data.toList with
          | false =>
            simp only [hd] at wd
            refine ⟨false, fun m => ?_⟩
            have g := g (m + 2); have wa := wa m; have wb := wb m; have wc := wc m; have wd := wd m; have we := we m
            simp only [strP, intP] at g wa wb wc wd we
            rw [callA_fn rfl Tryz.func68 rfl rfl rfl]
            simp [Tryz.f68, strP, g1, g, loop_succ, z0, z1, z2, z3, z4, wa, wb, wc, wd]
          | true =>
            simp only [hd] at wd
            cases he : wordB e.data.toList with
            | false =>
              simp only [he] at we
              refine ⟨false, fun m => ?_⟩
              have g := g (m + 2); have wa := wa m; have wb := wb m; have wc := wc m; have wd := wd m; have we := we m
              simp only [strP, intP] at g wa wb wc wd we
              rw [callA_fn rfl Tryz.func68 rfl rfl rfl]
              simp [Tryz.f68, strP, g1, g, loop_succ, z0, z1, z2, z3, z4, wa, wb, wc, wd, we]
            | true =>
              simp only [he] at we
              refine ⟨true, fun m => ?_⟩
              have g := g (m + 2); have wa := wa m; have wb := wb m; have wc := wc m; have wd := wd m; have we := we m
              simp only [strP, intP] at g wa wb wc wd we
              rw [callA_fn rfl Tryz.func68 rfl rfl rfl]
              simp [Tryz.f68, strP, g1, g, loop_succ, z0, z1, z2, z3, z4, wa, wb, wc, wd, we]
end Go.Proofs.YtlhjljplfmmoaaaGreatDoor.Ev
