/- Items; item.strings: what it computes. -/
import Derived.Test.YtlhjljplfmmoaaaGreatDoorF7
namespace Go.Proofs.YtlhjljplfmmoaaaGreatDoor.Ev
open Go
set_option linter.unusedSimpArgs false
set_option linter.unusedVariables false
set_option maxRecDepth 10000
set_option maxHeartbeats 4000000
structure It where
  id : Int
  ver : Int
  kind : Int
  stem : ByteArray
  opts : List ByteArray
  choices : List Int
  val : Int
  tol : Int
  texts : List ByteArray
  pts : Int
  cont : ByteArray
  fam : Int
  set : Int
  words : Int
  secs : Int
  assets : List Int
  rub : Int
def It.pv : It → PV
  | ⟨id, ver, kind, stem, opts, choices, val, tol, texts, pts, cont, fam, set, words, secs, assets, rub⟩ => .agg [PV.val (.int .i64 id), .val (.int .i64 ver), .val (.int .i64 kind), .val (.string stem), .sl (opts.map strP), .sl (choices.map intP), .val (.int .i64 val), .val (.int .i64 tol), .sl (texts.map strP), .val (.int .i64 pts), .val (.string cont), .val (.int .i64 fam), .val (.int .i64 set), .val (.int .i64 words), .val (.int .i64 secs), .sl (assets.map intP), .val (.int .i64 rub)]
structure It.Fit (it : It) (n : Nat) : Prop where
  stem : it.stem.size ≤ n
  cont : it.cont.size ≤ n
  opts : it.opts.length ≤ n
  optsS : ∀ s, s ∈ it.opts → s.size ≤ n
  choices : it.choices.length ≤ n
  texts : it.texts.length ≤ n
  textsS : ∀ s, s ∈ it.texts → s.size ≤ n
  assets : it.assets.length ≤ n
noncomputable def contB (s : ByteArray) : Bool := if h : s.size ≤ 9223372036854775807 then Classical.choose (content_ev s h) else false
theorem content_b (s : ByteArray) (hs : s.size ≤ 9223372036854775807) (m : Nat) : (ev Tryz.prog tab (m + 15)).callA 68 [strP s] = some [.val (.bool (contB s))] := by
  have := Classical.choose_spec (content_ev s hs) m
  unfold contB
  rw [dif_pos hs]
  exact this
def optB (s : ByteArray) : Bool := printB s.data.toList 200 false
noncomputable def stringsB (it : It) : Bool := it.opts.all optB && (it.texts.all optB && (printB it.stem.data.toList 2000 true && contB it.cont))
theorem strings_ev (n : Nat) (it : It) (hn : it.Fit n) (hm : it.Fit 9223372036854775807) : (ev Tryz.prog tab (n + 16)).callA 41 [it.pv] = some [.val (.bool (stringsB it))] := by
  obtain ⟨id, ver, kind, stem, opts, choices, val, tol, texts, pts, cont, fam, set, words, secs, assets, rub⟩ := it
  obtain ⟨n1, n2, n3, n4, n5, n6, n7, n8⟩ := hn
  obtain ⟨m1, m2, m3, m4, m5, m6, m7, m8⟩ := hm
  simp only at n1 n2 n3 n4 n5 n6 n7 n8 m1 m2 m3 m4 m5 m6 m7 m8
  have hq : ∀ z : ByteArray, strP z = .val (.string z) := fun _ => rfl
  have wstem := printable_ev (n + 13) stem _ rfl 2000 true m1 (by omega)
  have wcont := content_b cont m2 n
  simp only [strP, intP] at wstem wcont
  rw [callA_fn rfl Tryz.func41 rfl rfl rfl]
  simp [Tryz.f41, It.pv]
  refine loop_rule (fun d st => ∃ (i : Nat) (j3 j4 j5 j6 j7 j11 j12 j13 j14 j15 j16 j17 j18 j19 j20 j21 j22 j23 j24 j25 j26 j27 j28 j29 j30 j31 j32 j33 j34 j35 j36 : TV), st = { tm := [.agg [TV.val (.int .i64 id), .val (.int .i64 ver), .val (.int .i64 kind), .val (.string stem), .sl (opts.map strP), .sl (choices.map intP), .val (.int .i64 val), .val (.int .i64 tol), .sl (texts.map strP), .val (.int .i64 pts), .val (.string cont), .val (.int .i64 fam), .val (.int .i64 set), .val (.int .i64 words), .val (.int .i64 secs), .sl (assets.map intP), .val (.int .i64 rub)], .ptr 1 0 0, .val (.bool false), j3, j4, j5, j6, j7, .sl (opts.map strP), .val (.int .i64 opts.length), .val (.int .i64 i), j11, j12, j13, j14, j15, j16, j17, j18, j19, j20, j21, j22, j23, j24, j25, j26, j27, j28, j29, j30, j31, j32, j33, j34, j35, j36], sus := [], so := [(1, .box [TV.val (.int .i64 id), .val (.int .i64 ver), .val (.int .i64 kind), .val (.string stem), .sl (opts.map strP), .sl (choices.map intP), .val (.int .i64 val), .val (.int .i64 tol), .sl (texts.map strP), .val (.int .i64 pts), .val (.string cont), .val (.int .i64 fam), .val (.int .i64 set), .val (.int .i64 words), .val (.int .i64 secs), .sl (assets.map intP), .val (.int .i64 rub)])] } ∧ d = opts.length - i ∧ i ≤ opts.length ∧ (opts.take i).all optB = true) ?_ _ opts.length _ (by omega) ⟨0, _, _, _, _, _, _, _, _, _, _, _, _, _, _, _, _, _, _, _, _, _, _, _, _, _, _, _, _, _, _, _, rfl, rfl, by omega, by simp⟩
  rintro d st m ⟨i, j3, j4, j5, j6, j7, j11, j12, j13, j14, j15, j16, j17, j18, j19, j20, j21, j22, j23, j24, j25, j26, j27, j28, j29, j30, j31, j32, j33, j34, j35, j36, rfl, rfl, hi, hall⟩ ih
  by_cases hlt : i < opts.length
  · obtain ⟨z, hc⟩ : ∃ z, opts[i]? = some z := ⟨opts[i], by simp⟩
    have hw := wrap_succ hlt m3
    have hd : decide ((i : Int) < opts.length) = true := by simp [hlt]
    have w := printable_ev (n + 13) z _ rfl 200 false (m4 z (List.mem_of_getElem? hc)) (by have := n4 z (List.mem_of_getElem? hc); omega)
    simp only [strP, intP] at w
    cases hb : optB z with
    | true =>
      unfold optB at hb
      rw [hb] at w
      simp [-getElem?_pos, hd, hc, hlt, hw, hq, w]
      exact ih _ _ (by omega) ⟨i + 1, _, _, _, _, _, _, _, _, _, _, _, _, _, _, _, _, _, _, _, _, _, _, _, _, _, _, _, _, _, _, _, rfl, rfl, by omega, all_take hall hc hb⟩
    | false =>
      have : stringsB ⟨id, ver, kind, stem, opts, choices, val, tol, texts, pts, cont, fam, set, words, secs, assets, rub⟩ = false := by unfold stringsB; simp only [all_not hc hb, Bool.false_and]
      unfold optB at hb
      rw [hb] at w
      simp [-getElem?_pos, hd, hc, hlt, hw, hq, w, this]
  · obtain rfl : i = opts.length := by omega
    rw [List.take_length] at hall
    simp
    clear ih
    refine loop_rule (fun d st => ∃ (i : Nat) (j3 j4 j5 j6 j7 j8 j9 j10 j11 j12 j13 j14 j15 j16 j17 j18 j22 j23 j24 j25 j26 j27 j28 j29 j30 j31 j32 j33 j34 j35 j36 : TV), st = { tm := [.agg [TV.val (.int .i64 id), .val (.int .i64 ver), .val (.int .i64 kind), .val (.string stem), .sl (opts.map strP), .sl (choices.map intP), .val (.int .i64 val), .val (.int .i64 tol), .sl (texts.map strP), .val (.int .i64 pts), .val (.string cont), .val (.int .i64 fam), .val (.int .i64 set), .val (.int .i64 words), .val (.int .i64 secs), .sl (assets.map intP), .val (.int .i64 rub)], .ptr 1 0 0, .val (.bool false), j3, j4, j5, j6, j7, j8, j9, j10, j11, j12, j13, j14, j15, j16, j17, j18, .sl (texts.map strP), .val (.int .i64 texts.length), .val (.int .i64 i), j22, j23, j24, j25, j26, j27, j28, j29, j30, j31, j32, j33, j34, j35, j36], sus := [], so := [(1, .box [TV.val (.int .i64 id), .val (.int .i64 ver), .val (.int .i64 kind), .val (.string stem), .sl (opts.map strP), .sl (choices.map intP), .val (.int .i64 val), .val (.int .i64 tol), .sl (texts.map strP), .val (.int .i64 pts), .val (.string cont), .val (.int .i64 fam), .val (.int .i64 set), .val (.int .i64 words), .val (.int .i64 secs), .sl (assets.map intP), .val (.int .i64 rub)])] } ∧ d = texts.length - i ∧ i ≤ texts.length ∧ (texts.take i).all optB = true) ?_ _ texts.length _ (by omega) ⟨0, _, _, _, _, _, _, _, _, _, _, _, _, _, _, _, _, _, _, _, _, _, _, _, _, _, _, _, _, _, _, _, rfl, rfl, by omega, by simp⟩
    rintro d st m ⟨i, j3, j4, j5, j6, j7, j8, j9, j10, j11, j12, j13, j14, j15, j16, j17, j18, j22, j23, j24, j25, j26, j27, j28, j29, j30, j31, j32, j33, j34, j35, j36, rfl, rfl, hi, hall2⟩ ih
    by_cases hlt : i < texts.length
    · obtain ⟨z, hc⟩ : ∃ z, texts[i]? = some z := ⟨texts[i], by simp⟩
      have hw := wrap_succ hlt m6
      have hd : decide ((i : Int) < texts.length) = true := by simp [hlt]
      have w := printable_ev (n + 13) z _ rfl 200 false (m7 z (List.mem_of_getElem? hc)) (by have := n7 z (List.mem_of_getElem? hc); omega)
      simp only [strP, intP] at w
      cases hb : optB z with
      | true =>
        unfold optB at hb
        rw [hb] at w
        simp [-getElem?_pos, hd, hc, hlt, hw, hq, w]
        exact ih _ _ (by omega) ⟨i + 1, _, _, _, _, _, _, _, _, _, _, _, _, _, _, _, _, _, _, _, _, _, _, _, _, _, _, _, _, _, _, _, rfl, rfl, by omega, all_take hall2 hc hb⟩
      | false =>
        have : stringsB ⟨id, ver, kind, stem, opts, choices, val, tol, texts, pts, cont, fam, set, words, secs, assets, rub⟩ = false := by unfold stringsB; simp only [hall, all_not hc hb, Bool.false_and, Bool.and_false]
        unfold optB at hb
        rw [hb] at w
        simp [-getElem?_pos, hd, hc, hlt, hw, hq, w, this]
    · obtain rfl : i = texts.length := by omega
      rw [List.take_length] at hall2
      have : stringsB ⟨id, ver, kind, stem, opts, choices, val, tol, texts, pts, cont, fam, set, words, secs, assets, rub⟩ = (printB stem.data.toList 2000 true && contB cont) := by unfold stringsB; simp only [hall, hall2, Bool.true_and]
      rw [this]
      cases hb : printB stem.data.toList 2000 true with
      | true =>
        rw [hb] at wstem
        simp [wstem, wcont]
      | false =>
        rw [hb] at wstem
        simp [wstem]
end Go.Proofs.YtlhjljplfmmoaaaGreatDoor.Ev
