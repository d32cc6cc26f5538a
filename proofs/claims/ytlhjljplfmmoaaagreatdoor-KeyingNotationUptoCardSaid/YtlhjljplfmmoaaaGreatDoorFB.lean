/- Segments, content, strings, numbers; items as data. -/
import Derived.Test.YtlhjljplfmmoaaaGreatDoorF6
namespace Go.Proofs.YtlhjljplfmmoaaaGreatDoor.Ev
open Go
set_option linter.unusedSimpArgs false
set_option linter.unusedVariables false
set_option maxRecDepth 10000
set_option maxHeartbeats 4000000
theorem sz119 : sizeT Tryz.prog 119 = some 5 := by kernel_rfl
theorem ze119 : zeroT Tryz.prog 119 = some (.agg [.val (.string ⟨#[]⟩), .val (.string ⟨#[]⟩), .val (.string ⟨#[]⟩), .val (.string ⟨#[]⟩), .val (.string ⟨#[]⟩)]) := by kernel_rfl
attribute [local simp] sz119 ze119 Tryz.underlying119 indexAddrTV
theorem segments_ev (s : ByteArray) (hs : s.size ≤ 9223372036854775807) :
    ∃ a b c d e k, 0 ≤ k ∧ k ≤ 5 ∧ ∀ m, (ev Tryz.prog tab (m + 12)).callA 97 [strP s] = some [.agg [strP a, strP b, strP c, strP d, strP e], intP k] := by
  obtain ⟨a, y, b, _, hy, g1⟩ := cut_ev s 46 hs
  obtain ⟨a2, y2, b2, _, hy2, g2⟩ := cut_ev y 46 (by omega)
  obtain ⟨a3, y3, b3, _, hy3, g3⟩ := cut_ev y2 46 (by omega)
  obtain ⟨a4, y4, b4, _, hy4, g4⟩ := cut_ev y3 46 (by omega)
  obtain ⟨a5, y5, b5, _, hy5, g5⟩ := cut_ev y4 46 (by omega)
  have z0 : IntKind.i64.wrap 1 = 1 := by kernel_rfl
  have z1 : IntKind.i64.wrap 2 = 2 := by kernel_rfl
  have z2 : IntKind.i64.wrap 3 = 3 := by kernel_rfl
  have z3 : IntKind.i64.wrap 4 = 4 := by kernel_rfl
  have z4 : IntKind.i64.wrap 5 = 5 := by kernel_rfl
  cases b with
  | false =>
    refine ⟨a, ⟨#[]⟩, ⟨#[]⟩, ⟨#[]⟩, ⟨#[]⟩, 1, by decide, by decide, fun m => ?_⟩
    have g1 := g1 (m + 6); have g2 := g2 (m + 6); have g3 := g3 (m + 6); have g4 := g4 (m + 6); have g5 := g5 (m + 6)
    simp only [strP] at g1 g2 g3 g4 g5
    rw [callA_fn rfl Tryz.func97 rfl rfl rfl]
    simp [Tryz.f97, strP, intP, loop_succ, g1, z0]
  | true =>
    cases b2 with
    | false =>
      refine ⟨a, a2, ⟨#[]⟩, ⟨#[]⟩, ⟨#[]⟩, 2, by decide, by decide, fun m => ?_⟩
      have g1 := g1 (m + 6); have g2 := g2 (m + 6); have g3 := g3 (m + 6); have g4 := g4 (m + 6); have g5 := g5 (m + 6)
      simp only [strP] at g1 g2 g3 g4 g5
      rw [callA_fn rfl Tryz.func97 rfl rfl rfl]
      simp [Tryz.f97, strP, intP, loop_succ, g1, g2, z0, z1]
    | true =>
      cases b3 with
      | false =>
        refine ⟨a, a2, a3, ⟨#[]⟩, ⟨#[]⟩, 3, by decide, by decide, fun m => ?_⟩
        have g1 := g1 (m + 6); have g2 := g2 (m + 6); have g3 := g3 (m + 6); have g4 := g4 (m + 6); have g5 := g5 (m + 6)
        simp only [strP] at g1 g2 g3 g4 g5
        rw [callA_fn rfl Tryz.func97 rfl rfl rfl]
        simp [Tryz.f97, strP, intP, loop_succ, g1, g2, g3, z0, z1, z2]
      | true =>
        cases b4 with
        | false =>
          refine ⟨a, a2, a3, a4, ⟨#[]⟩, 4, by decide, by decide, fun m => ?_⟩
          have g1 := g1 (m + 6); have g2 := g2 (m + 6); have g3 := g3 (m + 6); have g4 := g4 (m + 6); have g5 := g5 (m + 6)
          simp only [strP] at g1 g2 g3 g4 g5
          rw [callA_fn rfl Tryz.func97 rfl rfl rfl]
          simp [Tryz.f97, strP, intP, loop_succ, g1, g2, g3, g4, z0, z1, z2, z3]
        | true =>
          cases b5 with
          | false =>
            refine ⟨a, a2, a3, a4, a5, 5, by decide, by decide, fun m => ?_⟩
            have g1 := g1 (m + 6); have g2 := g2 (m + 6); have g3 := g3 (m + 6); have g4 := g4 (m + 6); have g5 := g5 (m + 6)
            simp only [strP] at g1 g2 g3 g4 g5
            rw [callA_fn rfl Tryz.func97 rfl rfl rfl]
            simp [Tryz.f97, strP, intP, loop_succ, g1, g2, g3, g4, g5, z0, z1, z2, z3, z4]
          | true =>
            refine ⟨a, a2, a3, a4, a5, 0, by decide, by decide, fun m => ?_⟩
            have g1 := g1 (m + 6); have g2 := g2 (m + 6); have g3 := g3 (m + 6); have g4 := g4 (m + 6); have g5 := g5 (m + 6)
            simp only [strP] at g1 g2 g3 g4 g5
            rw [callA_fn rfl Tryz.func97 rfl rfl rfl]
            simp [Tryz.f97, strP, intP, loop_succ, g1, g2, g3, g4, g5, z0, z1, z2, z3, z4]
theorem content_ev (s : ByteArray) (hs : s.size ≤ 9223372036854775807) : ∃ b, ∀ m, (ev Tryz.prog tab (m + 15)).callA 68 [strP s] = some [.val (.bool b)] := by
  by_cases g1 : 24 < (s.size : Int)
  · refine ⟨false, fun m => ?_⟩
    rw [callA_fn rfl Tryz.func68 rfl rfl rfl]
    simp [Tryz.f68, strP, g1]
  obtain ⟨a, b, c, d, e, k, h0, h5, g⟩ := segments_ev s hs
  have wa := fun m => word_ev (m + 13) a _ rfl (by omega)
  have wb := fun m => word_ev (m + 13) b _ rfl (by omega)
  have wc := fun m => word_ev (m + 13) c _ rfl (by omega)
  have wd := fun m => word_ev (m + 13) d _ rfl (by omega)
  have we := fun m => word_ev (m + 13) e _ rfl (by omega)
  have z0 : IntKind.i64.wrap 1 = 1 := by kernel_rfl
  have z1 : IntKind.i64.wrap 2 = 2 := by kernel_rfl
  have z2 : IntKind.i64.wrap 3 = 3 := by kernel_rfl
  have z3 : IntKind.i64.wrap 4 = 4 := by kernel_rfl
  have z4 : IntKind.i64.wrap 5 = 5 := by kernel_rfl
  have hk : k = 0 ∨ k = 1 ∨ k = 2 ∨ k = 3 ∨ k = 4 ∨ k = 5 := by omega
  rcases hk with rfl | rfl | rfl | rfl | rfl | rfl
  · refine ⟨false, fun m => ?_⟩
    have g := g (m + 2); have wa := wa m; have wb := wb m; have wc := wc m; have wd := wd m; have we := we m
    simp only [strP, intP] at g wa wb wc wd we
    rw [callA_fn rfl Tryz.func68 rfl rfl rfl]
    simp [Tryz.f68, strP, g1, g, loop_succ, z0, z1, z2, z3, z4]
  · cases ha : wordB a.data.toList with
    | false =>
      simp only [ha] at wa
      refine ⟨false, fun m => ?_⟩
      have g := g (m + 2); have wa := wa m; have wb := wb m; have wc := wc m; have wd := wd m; have we := we m
      simp only [strP, intP] at g wa wb wc wd we
      rw [callA_fn rfl Tryz.func68 rfl rfl rfl]
      simp [Tryz.f68, strP, g1, g, loop_succ, z0, z1, z2, z3, z4, wa]
    | true =>
      simp only [ha] at wa
      refine ⟨true, fun m => ?_⟩
      have g := g (m + 2); have wa := wa m; have wb := wb m; have wc := wc m; have wd := wd m; have we := we m
      simp only [strP, intP] at g wa wb wc wd we
      rw [callA_fn rfl Tryz.func68 rfl rfl rfl]
      simp [Tryz.f68, strP, g1, g, loop_succ, z0, z1, z2, z3, z4, wa]
  · cases ha : wordB a.data.toList with
    | false =>
      simp only [ha] at wa
      refine ⟨false, fun m => ?_⟩
      have g := g (m + 2); have wa := wa m; have wb := wb m; have wc := wc m; have wd := wd m; have we := we m
      simp only [strP, intP] at g wa wb wc wd we
      rw [callA_fn rfl Tryz.func68 rfl rfl rfl]
      simp [Tryz.f68, strP, g1, g, loop_succ, z0, z1, z2, z3, z4, wa]
    | true =>
      simp only [ha] at wa
      cases hb : wordB b.data.toList with
      | false =>
        simp only [hb] at wb
        refine ⟨false, fun m => ?_⟩
        have g := g (m + 2); have wa := wa m; have wb := wb m; have wc := wc m; have wd := wd m; have we := we m
        simp only [strP, intP] at g wa wb wc wd we
        rw [callA_fn rfl Tryz.func68 rfl rfl rfl]
        simp [Tryz.f68, strP, g1, g, loop_succ, z0, z1, z2, z3, z4, wa, wb]
      | true =>
        simp only [hb] at wb
        refine ⟨true, fun m => ?_⟩
        have g := g (m + 2); have wa := wa m; have wb := wb m; have wc := wc m; have wd := wd m; have we := we m
        simp only [strP, intP] at g wa wb wc wd we
        rw [callA_fn rfl Tryz.func68 rfl rfl rfl]
        simp [Tryz.f68, strP, g1, g, loop_succ, z0, z1, z2, z3, z4, wa, wb]
  · cases ha : wordB a.data.toList with
    | false =>
      simp only [ha] at wa
      refine ⟨false, fun m => ?_⟩
      have g := g (m + 2); have wa := wa m; have wb := wb m; have wc := wc m; have wd := wd m; have we := we m
      simp only [strP, intP] at g wa wb wc wd we
      rw [callA_fn rfl Tryz.func68 rfl rfl rfl]
      simp [Tryz.f68, strP, g1, g, loop_succ, z0, z1, z2, z3, z4, wa]
    | true =>
      simp only [ha] at wa
      cases hb : wordB b.data.toList with
      | false =>
        simp only [hb] at wb
        refine ⟨false, fun m => ?_⟩
        have g := g (m + 2); have wa := wa m; have wb := wb m; have wc := wc m; have wd := wd m; have we := we m
        simp only [strP, intP] at g wa wb wc wd we
        rw [callA_fn rfl Tryz.func68 rfl rfl rfl]
        simp [Tryz.f68, strP, g1, g, loop_succ, z0, z1, z2, z3, z4, wa, wb]
      | true =>
        simp only [hb] at wb
        cases hc : wordB c.data.toList with
        | false =>
          simp only [hc] at wc
          refine ⟨false, fun m => ?_⟩
          have g := g (m + 2); have wa := wa m; have wb := wb m; have wc := wc m; have wd := wd m; have we := we m
          simp only [strP, intP] at g wa wb wc wd we
          rw [callA_fn rfl Tryz.func68 rfl rfl rfl]
          simp [Tryz.f68, strP, g1, g, loop_succ, z0, z1, z2, z3, z4, wa, wb, wc]
        | true =>
          simp only [hc] at wc
          refine ⟨true, fun m => ?_⟩
          have g := g (m + 2); have wa := wa m; have wb := wb m; have wc := wc m; have wd := wd m; have we := we m
          simp only [strP, intP] at g wa wb wc wd we
          rw [callA_fn rfl Tryz.func68 rfl rfl rfl]
          simp [Tryz.f68, strP, g1, g, loop_succ, z0, z1, z2, z3, z4, wa, wb, wc]
  · cases ha : wordB a.data.toList with
    | false =>
      simp only [ha] at wa
      refine ⟨false, fun m => ?_⟩
      have g := g (m + 2); have wa := wa m; have wb := wb m; have wc := wc m; have wd := wd m; have we := we m
      simp only [strP, intP] at g wa wb wc wd we
      rw [callA_fn rfl Tryz.func68 rfl rfl rfl]
      simp [Tryz.f68, strP, g1, g, loop_succ, z0, z1, z2, z3, z4, wa]
    | true =>
      simp only [ha] at wa
      cases hb : wordB b.data.toList with
      | false =>
        simp only [hb] at wb
        refine ⟨false, fun m => ?_⟩
        have g := g (m + 2); have wa := wa m; have wb := wb m; have wc := wc m; have wd := wd m; have we := we m
        simp only [strP, intP] at g wa wb wc wd we
        rw [callA_fn rfl Tryz.func68 rfl rfl rfl]
        simp [Tryz.f68, strP, g1, g, loop_succ, z0, z1, z2, z3, z4, wa, wb]
      | true =>
        simp only [hb] at wb
        cases hc : wordB c.data.toList with
        | false =>
          simp only [hc] at wc
          refine ⟨false, fun m => ?_⟩
          have g := g (m + 2); have wa := wa m; have wb := wb m; have wc := wc m; have wd := wd m; have we := we m
          simp only [strP, intP] at g wa wb wc wd we
          rw [callA_fn rfl Tryz.func68 rfl rfl rfl]
          simp [Tryz.f68, strP, g1, g, loop_succ, z0, z1, z2, z3, z4, wa, wb, wc]
        | true =>
          simp only [hc] at wc
          cases hd : wordB d.data.toList with
          | false =>
            simp only [hd] at wd
            refine ⟨false, fun m => ?_⟩
            have g := g (m + 2); have wa := wa m; have wb := wb m; have wc := wc m; have wd := wd m; have we := we m
            simp only [strP, intP] at g wa wb wc wd we
            rw [callA_fn rfl Tryz.func68 rfl rfl rfl]
            simp [Tryz.f68, strP, g1, g, loop_succ, z0, z1, z2, z3, z4, wa, wb, wc, wd]
          | true =>
            simp only [hd] at wd
            refine ⟨true, fun m => ?_⟩
            have g := g (m + 2); have wa := wa m; have wb := wb m; have wc := wc m; have wd := wd m; have we := we m
            simp only [strP, intP] at g wa wb wc wd we
            rw [callA_fn rfl Tryz.func68 rfl rfl rfl]
            simp [Tryz.f68, strP, g1, g, loop_succ, z0, z1, z2, z3, z4, wa, wb, wc, wd]
  · cases ha : wordB a.data.toList with
    | false =>
      simp only [ha] at wa
      refine ⟨false, fun m => ?_⟩
      have g := g (m + 2); have wa := wa m; have wb := wb m; have wc := wc m; have wd := wd m; have we := we m
      simp only [strP, intP] at g wa wb wc wd we
      rw [callA_fn rfl Tryz.func68 rfl rfl rfl]
      simp [Tryz.f68, strP, g1, g, loop_succ, z0, z1, z2, z3, z4, wa]
    | true =>
      simp only [ha] at wa
      cases hb : wordB b.data.toList with
      | false =>
        simp only [hb] at wb
        refine ⟨false, fun m => ?_⟩
        have g := g (m + 2); have wa := wa m; have wb := wb m; have wc := wc m; have wd := wd m; have we := we m
        simp only [strP, intP] at g wa wb wc wd we
        rw [callA_fn rfl Tryz.func68 rfl rfl rfl]
        simp [Tryz.f68, strP, g1, g, loop_succ, z0, z1, z2, z3, z4, wa, wb]
      | true =>
        simp only [hb] at wb
        cases hc : wordB c.data.toList with
        | false =>
          simp only [hc] at wc
          refine ⟨false, fun m => ?_⟩
          have g := g (m + 2); have wa := wa m; have wb := wb m; have wc := wc m; have wd := wd m; have we := we m
          simp only [strP, intP] at g wa wb wc wd we
          rw [callA_fn rfl Tryz.func68 rfl rfl rfl]
          simp [Tryz.f68, strP, g1, g, loop_succ, z0, z1, z2, z3, z4, wa, wb, wc]
        | true =>
          simp only [hc] at wc
          cases hd : wordB d.data.toList with
          | false =>
            simp only [hd] at wd
            refine ⟨false, fun m => ?_⟩
            have g := g (m + 2); have wa := wa m; have wb := wb m; have wc := wc m; have wd := wd m; have we := we m
            simp only [strP, intP] at g wa wb wc wd we
            rw [callA_fn rfl Tryz.func68 rfl rfl rfl]
            simp [Tryz.f68, strP, g1, g, loop_succ, z0, z1, z2, z3, z4, wa, wb, wc, wd]
          | true =>
            simp only [hd] at wd
            cases he : wordB e.data.toList with
            | false =>
              simp only [he] at we
              refine ⟨false, fun m => ?_⟩
              have g := g (m + 2); have wa := wa m; have wb := wb m; have wc := wc m; have wd := wd m; have we := we m
              simp only [strP, intP] at g wa wb wc wd we
              rw [callA_fn rfl Tryz.func68 rfl rfl rfl]
              simp [Tryz.f68, strP, g1, g, loop_succ, z0, z1, z2, z3, z4, wa, wb, wc, wd, we]
            | true =>
              simp only [he] at we
              refine ⟨true, fun m => ?_⟩
              have g := g (m + 2); have wa := wa m; have wb := wb m; have wc := wc m; have wd := wd m; have we := we m
              simp only [strP, intP] at g wa wb wc wd we
              rw [callA_fn rfl Tryz.func68 rfl rfl rfl]
              simp [Tryz.f68, strP, g1, g, loop_succ, z0, z1, z2, z3, z4, wa, wb, wc, wd, we]
end Go.Proofs.YtlhjljplfmmoaaaGreatDoor.Ev
namespace Go.Proofs.YtlhjljplfmmoaaaGreatDoor.Ev
open Go
set_option linter.unusedSimpArgs false
set_option linter.unusedVariables false
set_option maxRecDepth 10000
set_option maxHeartbeats 4000000
structure It where
  id : Int
  ver : Int
  kind : Int
  stem : ByteArray
  opts : List ByteArray
  choices : List Int
  val : Int
  tol : Int
  texts : List ByteArray
  pts : Int
  cont : ByteArray
  fam : Int
  set : Int
  words : Int
  secs : Int
  assets : List Int
  rub : Int
def It.pv : It → PV
  | ⟨id, ver, kind, stem, opts, choices, val, tol, texts, pts, cont, fam, set, words, secs, assets, rub⟩ => .agg [PV.val (.int .i64 id), .val (.int .i64 ver), .val (.int .i64 kind), .val (.string stem), .sl (opts.map strP), .sl (choices.map intP), .val (.int .i64 val), .val (.int .i64 tol), .sl (texts.map strP), .val (.int .i64 pts), .val (.string cont), .val (.int .i64 fam), .val (.int .i64 set), .val (.int .i64 words), .val (.int .i64 secs), .sl (assets.map intP), .val (.int .i64 rub)]
structure It.Fit (it : It) (n : Nat) : Prop where
  stem : it.stem.size ≤ n
  cont : it.cont.size ≤ n
  opts : it.opts.length ≤ n
  optsS : ∀ s, s ∈ it.opts → s.size ≤ n
  choices : it.choices.length ≤ n
  texts : it.texts.length ≤ n
  textsS : ∀ s, s ∈ it.texts → s.size ≤ n
  assets : it.assets.length ≤ n
noncomputable def contB (s : ByteArray) : Bool := if h : s.size ≤ 9223372036854775807 then Classical.choose (content_ev s h) else false
theorem content_b (s : ByteArray) (hs : s.size ≤ 9223372036854775807) (m : Nat) : (ev Tryz.prog tab (m + 15)).callA 68 [strP s] = some [.val (.bool (contB s))] := by
  have := Classical.choose_spec (content_ev s hs) m
  unfold contB
  rw [dif_pos hs]
  exact this
def optB (s : ByteArray) : Bool := printB s.data.toList 200 false
noncomputable def stringsB (it : It) : Bool := it.opts.all optB && (it.texts.all optB && (printB it.stem.data.toList 2000 true && contB it.cont))
theorem strings_ev (n : Nat) (it : It) (hn : it.Fit n) (hm : it.Fit 9223372036854775807) : (ev Tryz.prog tab (n + 16)).callA 41 [it.pv] = some [.val (.bool (stringsB it))] := by
  obtain ⟨id, ver, kind, stem, opts, choices, val, tol, texts, pts, cont, fam, set, words, secs, assets, rub⟩ := it
  obtain ⟨n1, n2, n3, n4, n5, n6, n7, n8⟩ := hn
  obtain ⟨m1, m2, m3, m4, m5, m6, m7, m8⟩ := hm
  simp only at n1 n2 n3 n4 n5 n6 n7 n8 m1 m2 m3 m4 m5 m6 m7 m8
  have hq : ∀ z : ByteArray, strP z = .val (.string z) := fun _ => rfl
  have wstem := printable_ev (n + 13) stem _ rfl 2000 true m1 (by omega)
  have wcont := content_b cont m2 n
  simp only [strP, intP] at wstem wcont
  rw [callA_fn rfl Tryz.func41 rfl rfl rfl]
  simp [Tryz.f41, It.pv]
  refine loop_rule (fun d st => ∃ (i : Nat) (j3 j4 j5 j6 j7 j11 j12 j13 j14 j15 j16 j17 j18 j19 j20 j21 j22 j23 j24 j25 j26 j27 j28 j29 j30 j31 j32 j33 j34 j35 j36 : TV), st = { tm := [.agg [TV.val (.int .i64 id), .val (.int .i64 ver), .val (.int .i64 kind), .val (.string stem), .sl (opts.map strP), .sl (choices.map intP), .val (.int .i64 val), .val (.int .i64 tol), .sl (texts.map strP), .val (.int .i64 pts), .val (.string cont), .val (.int .i64 fam), .val (.int .i64 set), .val (.int .i64 words), .val (.int .i64 secs), .sl (assets.map intP), .val (.int .i64 rub)], .ptr 1 0 0, .val (.bool false), j3, j4, j5, j6, j7, .sl (opts.map strP), .val (.int .i64 opts.length), .val (.int .i64 i), j11, j12, j13, j14, j15, j16, j17, j18, j19, j20, j21, j22, j23, j24, j25, j26, j27, j28, j29, j30, j31, j32, j33, j34, j35, j36], sus := [], so := [(1, .box [TV.val (.int .i64 id), .val (.int .i64 ver), .val (.int .i64 kind), .val (.string stem), .sl (opts.map strP), .sl (choices.map intP), .val (.int .i64 val), .val (.int .i64 tol), .sl (texts.map strP), .val (.int .i64 pts), .val (.string cont), .val (.int .i64 fam), .val (.int .i64 set), .val (.int .i64 words), .val (.int .i64 secs), .sl (assets.map intP), .val (.int .i64 rub)])] } ∧ d = opts.length - i ∧ i ≤ opts.length ∧ (opts.take i).all optB = true) ?_ _ opts.length _ (by omega) ⟨0, _, _, _, _, _, _, _, _, _, _, _, _, _, _, _, _, _, _, _, _, _, _, _, _, _, _, _, _, _, _, _, rfl, rfl, by omega, by simp⟩
  rintro d st m ⟨i, j3, j4, j5, j6, j7, j11, j12, j13, j14, j15, j16, j17, j18, j19, j20, j21, j22, j23, j24, j25, j26, j27, j28, j29, j30, j31, j32, j33, j34, j35, j36, rfl, rfl, hi, hall⟩ ih
  by_cases hlt : i < opts.length
  · obtain ⟨z, hc⟩ : ∃ z, opts[i]? = some z := ⟨opts[i], by simp⟩
    have hw := wrap_succ hlt m3
    have hd : decide ((i : Int) < opts.length) = true := by simp [hlt]
    have w := printable_ev (n + 13) z _ rfl 200 false (m4 z (List.mem_of_getElem? hc)) (by have := n4 z (List.mem_of_getElem? hc); omega)
    simp only [strP, intP] at w
    cases hb : optB z with
    | true =>
      unfold optB at hb
      rw [hb] at w
      simp [-getElem?_pos, hd, hc, hlt, hw, hq, w]
      exact ih _ _ (by omega) ⟨i + 1, _, _, _, _, _, _, _, _, _, _, _, _, _, _, _, _, _, _, _, _, _, _, _, _, _, _, _, _, _, _, _, rfl, rfl, by omega, all_take hall hc hb⟩
    | false =>
      have : stringsB ⟨id, ver, kind, stem, opts, choices, val, tol, texts, pts, cont, fam, set, words, secs, assets, rub⟩ = false := by unfold stringsB; simp only [all_not hc hb, Bool.false_and]
      unfold optB at hb
      rw [hb] at w
      simp [-getElem?_pos, hd, hc, hlt, hw, hq, w, this]
  · obtain rfl : i = opts.length := by omega
    rw [List.take_length] at hall
    simp
    clear ih
    refine loop_rule (fun d st => ∃ (i : Nat) (j3 j4 j5 j6 j7 j8 j9 j10 j11 j12 j13 j14 j15 j16 j17 j18 j22 j23 j24 j25 j26 j27 j28 j29 j30 j31 j32 j33 j34 j35 j36 : TV), st = { tm := [.agg [TV.val (.int .i64 id), .val (.int .i64 ver), .val (.int .i64 kind), .val (.string stem), .sl (opts.map strP), .sl (choices.map intP), .val (.int .i64 val), .val (.int .i64 tol), .sl (texts.map strP), .val (.int .i64 pts), .val (.string cont), .val (.int .i64 fam), .val (.int .i64 set), .val (.int .i64 words), .val (.int .i64 secs), .sl (assets.map intP), .val (.int .i64 rub)], .ptr 1 0 0, .val (.bool false), j3, j4, j5, j6, j7, j8, j9, j10, j11, j12, j13, j14, j15, j16, j17, j18, .sl (texts.map strP), .val (.int .i64 texts.length), .val (.int .i64 i), j22, j23, j24, j25, j26, j27, j28, j29, j30, j31, j32, j33, j34, j35, j36], sus := [], so := [(1, .box [TV.val (.int .i64 id), .val (.int .i64 ver), .val (.int .i64 kind), .val (.string stem), .sl (opts.map strP), .sl (choices.map intP), .val (.int .i64 val), .val (.int .i64 tol), .sl (texts.map strP), .val (.int .i64 pts), .val (.string cont), .val (.int .i64 fam), .val (.int .i64 set), .val (.int .i64 words), .val (.int .i64 secs), .sl (assets.map intP), .val (.int .i64 rub)])] } ∧ d = texts.length - i ∧ i ≤ texts.length ∧ (texts.take i).all optB = true) ?_ _ texts.length _ (by omega) ⟨0, _, _, _, _, _, _, _, _, _, _, _, _, _, _, _, _, _, _, _, _, _, _, _, _, _, _, _, _, _, _, _, rfl, rfl, by omega, by simp⟩
    rintro d st m ⟨i, j3, j4, j5, j6, j7, j8, j9, j10, j11, j12, j13, j14, j15, j16, j17, j18, j22, j23, j24, j25, j26, j27, j28, j29, j30, j31, j32, j33, j34, j35, j36, rfl, rfl, hi, hall2⟩ ih
    by_cases hlt : i < texts.length
    · obtain ⟨z, hc⟩ : ∃ z, texts[i]? = some z := ⟨texts[i], by simp⟩
      have hw := wrap_succ hlt m6
      have hd : decide ((i : Int) < texts.length) = true := by simp [hlt]
      have w := printable_ev (n + 13) z _ rfl 200 false (m7 z (List.mem_of_getElem? hc)) (by have := n7 z (List.mem_of_getElem? hc); omega)
      simp only [strP, intP] at w
      cases hb : optB z with
      | true =>
        unfold optB at hb
        rw [hb] at w
        simp [-getElem?_pos, hd, hc, hlt, hw, hq, w]
        exact ih _ _ (by omega) ⟨i + 1, _, _, _, _, _, _, _, _, _, _, _, _, _, _, _, _, _, _, _, _, _, _, _, _, _, _, _, _, _, _, _, rfl, rfl, by omega, all_take hall2 hc hb⟩
      | false =>
        have : stringsB ⟨id, ver, kind, stem, opts, choices, val, tol, texts, pts, cont, fam, set, words, secs, assets, rub⟩ = false := by unfold stringsB; simp only [hall, all_not hc hb, Bool.false_and, Bool.and_false]
        unfold optB at hb
        rw [hb] at w
        simp [-getElem?_pos, hd, hc, hlt, hw, hq, w, this]
    · obtain rfl : i = texts.length := by omega
      rw [List.take_length] at hall2
      have : stringsB ⟨id, ver, kind, stem, opts, choices, val, tol, texts, pts, cont, fam, set, words, secs, assets, rub⟩ = (printB stem.data.toList 2000 true && contB cont) := by unfold stringsB; simp only [hall, hall2, Bool.true_and]
      rw [this]
      cases hb : printB stem.data.toList 2000 true with
      | true =>
        rw [hb] at wstem
        simp [wstem, wcont]
      | false =>
        rw [hb] at wstem
        simp [wstem]
end Go.Proofs.YtlhjljplfmmoaaaGreatDoor.Ev
namespace Go.Proofs.YtlhjljplfmmoaaaGreatDoor.Ev
open Go
set_option linter.unusedSimpArgs false
set_option linter.unusedVariables false
set_option maxRecDepth 10000
set_option maxHeartbeats 4000000
def numbersB (it : It) : Bool := withinB it.id 1 9999999 && withinB it.ver 1 50 && withinB it.pts 1 5 && withinB it.words 0 2000 && withinB it.secs 1 2000 && withinB it.fam 0 9999999 && withinB it.set 0 9999999 && withinB it.rub 0 9999999
theorem numbers_ev (n : Nat) (it : It) : (ev Tryz.prog tab (n + 2)).callA 39 [it.pv] = some [.val (.bool (numbersB it))] := by
  obtain ⟨id, ver, kind, stem, opts, choices, val, tol, texts, pts, cont, fam, set, words, secs, assets, rub⟩ := it
  have w := within_ev n
  simp only [intP] at w
  rw [callA_fn rfl Tryz.func39 rfl rfl rfl]
  simp [Tryz.f39, It.pv, w]
  repeat' ((first | refine test_cases ?_ ?_ | refine cond_cases ?_ ?_) <;> intro h <;> (try simp only [Bool.not_eq_true', Bool.not_eq_false'] at h) <;> simp [w, h])
  all_goals simp_all [numbersB]
theorem intsOf_map (zs : List Int) : intsOf (zs.map intP) = some zs := by
  induction zs with
  | nil => rfl
  | cons z t ih => show (match intsOf (t.map intP) with | some l => some (z :: l) | none => none) = _; rw [ih]
theorem ins_length (x : Int) (l : List Int) : (ins x l).length = l.length + 1 := by
  induction l with
  | nil => rfl
  | cons y t ih => unfold ins; split <;> simp [ih]
theorem isort_length (l : List Int) : (isort l).length = l.length := by
  induction l with
  | nil => rfl
  | cons x t ih => simp [isort, ins_length, ih]
theorem values_g (n : Nat) (xs : List PV) : (ev Tryz.prog tab (n + 1)).callA 70 [.sl xs] = some [.fn 101 xs] := rfl
theorem sorted_g (n : Nat) (zs : List Int) (h : zs.length * 8 ≤ 140737488351232) : (ev Tryz.prog tab (n + 1)).callA 69 [.fn 101 (zs.map intP)] = some [.sl ((isort zs).map intP)] := by
  show gSorted [.fn 101 (zs.map intP)] = _
  simp only [gSorted, intsOf_map, h, if_true]
def chosenB (kind : Int) : Bool := decide (kind = 1) || decide (kind = 2) || decide (kind = 3)
def keyB (it : It) : Bool :=
  if it.kind = 1 then decide (2 ≤ it.opts.length) && decide (it.choices.length = 1) && risingB it.choices 0 (it.opts.length - 1)
  else if it.kind = 2 then decide (2 ≤ it.opts.length) && decide (1 ≤ it.choices.length) && risingB it.choices 0 (it.opts.length - 1)
  else if it.kind = 3 then decide (2 ≤ it.opts.length) && decide (it.choices.length = it.opts.length) && risingB (isort it.choices) 0 (it.opts.length - 1)
  else if it.kind = 4 then withinB it.val (-9999999) 9999999 && withinB it.tol 0 9999999
  else if it.kind = 5 then textsB it.texts
  else decide (1 ≤ it.rub)
def fitsB (it : It) : Bool :=
  if !chosenB it.kind && (decide (0 < it.opts.length) || decide (0 < it.choices.length)) || !decide (it.kind = 4) && (!decide (it.val = 0) || !decide (it.tol = 0)) then false
  else if !decide (it.kind = 5) && decide (0 < it.texts.length) || !decide (it.kind = 6) && !decide (it.rub = 0) then false
  else keyB it
end Go.Proofs.YtlhjljplfmmoaaaGreatDoor.Ev
