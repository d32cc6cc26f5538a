/- The reference's key at a text item: what it computes. -/
import Derived.Test.YtlhjljplfmmoaaaGreatDoorR7
import Derived.Test.YtlhjljplfmmoaaaGreatDoorRA
namespace Go.Proofs.YtlhjljplfmmoaaaGreatDoor.Ev
open Go
set_option linter.unusedSimpArgs false
set_option linter.unusedVariables false
set_option maxRecDepth 10000
set_option maxHeartbeats 4000000
theorem keyR5v (id ver val tol pts fam set words secs rub : Int) (stem cont : ByteArray) (opts texts : List ByteArray) (choices assets : List Int) :
    keyR ⟨id, ver, 5, stem, opts, choices, val, tol, texts, pts, cont, fam, set, words, secs, assets, rub⟩ = ((decide (opts = []) && decide (choices = [])) && ((decide (val = 0) && decide (tol = 0)) && (decide (rub = 0) && textsB texts))) := by
  by_cases c1 : opts = [] <;> by_cases c2 : choices = [] <;> by_cases c3 : val = 0 <;> by_cases c4 : tol = 0 <;> by_cases c5 : rub = 0 <;> simp [keyR, fitsB, keyB, chosenB, c1, c2, c3, c4, c5, List.length_pos_iff]
theorem keyR5_00 (n : Nat) (id ver val tol pts fam set words secs rub : Int) (stem cont : ByteArray) (opts texts : List ByteArray) (choices assets : List Int) (V b3 : Bool) (hb3 : b3 = decide (rub = 0)) (n6 : texts.length ≤ n) (n7 : ∀ s, s ∈ texts → s.size ≤ n) (m6 : texts.length ≤ 9223372036854775806) (m7 : ∀ s, s ∈ texts → s.size ≤ 9223372036854775806) (hV : V = (false && (false && (b3 && textsB texts)))) (e1 : (opts = []) = False) (e2 : True = True) (e3 : (val = 0) = False) (e4 : True = True) : (ev Tryz.prog tab (n + 3)).callA 63 [It.pv ⟨id, ver, 5, stem, opts, choices, val, tol, texts, pts, cont, fam, set, words, secs, assets, rub⟩] = some [.val (.bool V)] := by
  have hq : ∀ z : ByteArray, strP z = .val (.string z) := fun _ => rfl
  rw [callA_fn rfl Tryz.func63 rfl rfl rfl]
  simp [-frame, Tryz.f63, It.pv, hq, e1, e2, e3, e4]
  refine loop_rule (fun d st => ∃ (i : Nat) (a : List (Nat × TV)), st = { tm := frameOf 183 a, sus := [], so := [(1, .box [TV.val (.int .i64 id), TV.val (.int .i64 ver), .val (.int .i64 5), .val (.string stem), .sl (opts.map strP), .sl (choices.map intP), .val (.int .i64 val), .val (.int .i64 tol), .sl (texts.map strP), .val (.int .i64 pts), .val (.string cont), .val (.int .i64 fam), .val (.int .i64 set), .val (.int .i64 words), .val (.int .i64 secs), .sl (assets.map intP), .val (.int .i64 rub)])] } ∧ look a 1 = .ptr 1 0 0 ∧ look a 2 = .val (.bool false) ∧ look a 3 = .val (.bool false) ∧ look a 4 = .val (.bool false) ∧ look a 6 = .val (.bool b3) ∧ look a 133 = .sl (texts.map strP) ∧ look a 134 = .val (.int .i64 texts.length) ∧ look a 135 = .val (.int .i64 i) ∧ d = texts.length - i ∧ i ≤ texts.length ∧ (List.range i).all (textAt texts) = true) ?_ _ texts.length _ (by omega) ⟨0, _, rfl, by simp, by simp, by simp, by simp, by simp [hb3], by simp [hq], by simp, by simp, rfl, by omega, by simp⟩
  rintro d st m ⟨i, a, rfl, h1, h2, h3, h4, h6, h133, h134, h135, rfl, hi, hall⟩ ih
  by_cases hlt : i < texts.length
  · obtain ⟨z, hc⟩ : ∃ z, texts[i]? = some z := ⟨texts[i], by simp⟩
    have hw := wrap_succ hlt (show texts.length ≤ 9223372036854775807 by omega)
    have w := normalized_r (n + 1) z _ rfl (by have := m7 z (List.mem_of_getElem? hc); omega) (by have := n7 z (List.mem_of_getElem? hc); omega)
    rw [hq] at w
    have hd : decide ((i : Int) < texts.length) = true := by simp [hlt]
    have hno : textAt texts i = false → V = false := fun h => by rw [hV]; unfold textsB; rw [range_not hlt h]; simp
    have hok : textAt texts i = (normB z.data.toList && (decide (i = 0) || match texts[i - 1]? with | some y => !strLe z y | none => true)) := by unfold textAt; rw [hc]; rfl
    cases hwi : normB z.data.toList with
    | true =>
      rw [hwi] at w hok
      by_cases h0 : 0 < i
      · obtain ⟨y, hy⟩ : ∃ y, texts[i - 1]? = some y := ⟨texts[i - 1], by simp⟩
        have hwm : IntKind.i64.wrap ((i : Int) - 1) = ((i - 1 : Nat) : Int) := by rw [wrap_i64 (by omega) (by omega)]; omega
        have hlm : i - 1 < texts.length := by omega
        have hzy : (Op.bytesLess z.toList y.toList || z.toList == y.toList) = strLe z y := rfl
        cases hb : strLe z y with
        | true =>
          rw [hb] at hzy
          have hV := hno (by rw [hok, hy]; simp [hb]; omega)
          simp [-frame, -getElem?_pos, -Bool.or_eq_true, h1, h2, h3, h4, h6, h133, h134, h135, hd, hc, hlt, hw, hq, w, h0, hwm, hy, hlm, hzy, hV]
        | false =>
          rw [hb] at hzy
          simp [-frame, -getElem?_pos, -Bool.or_eq_true, h1, h2, h3, h4, h6, h133, h134, h135, hd, hc, hlt, hw, hq, w, h0, hwm, hy, hlm, hzy]
          exact ih _ _ (by omega) ⟨i + 1, _, rfl, by simp [h1], by simp [h2], by simp [h3], by simp [h4], by simp [h6], by simp [h133], by simp [h134], by simp, rfl, by omega, range_all hall (by rw [hok, hy]; simp [hb])⟩
      · obtain rfl : i = 0 := by omega
        simp [-frame, -getElem?_pos, h1, h2, h3, h4, h6, h133, h134, h135, hd, hc, hlt, hw, hq, w]
        exact ih _ _ (by omega) ⟨0 + 1, _, rfl, by simp [h1], by simp [h2], by simp [h3], by simp [h4], by simp [h6], by simp [h133], by simp [h134], by simp [show IntKind.i64.wrap 1 = 1 from rfl], rfl, by omega, range_all hall (by rw [hok]; simp)⟩
    | false =>
      rw [hwi] at w hok
      have hV := hno (by rw [hok]; rfl)
      simp [-frame, -getElem?_pos, h1, h2, h3, h4, h6, h133, h134, h135, hd, hc, hlt, hw, hq, w, hV]
  · obtain rfl : i = texts.length := by omega
    unfold textsB at hV
    rw [hall, Bool.true_and] at hV
    by_cases hl : texts = []
    · have e : decide (0 < texts.length) = false := by simp [hl]
      have e2 : ¬ (1 : Int) ≤ texts.length := by simp [hl]
      rw [e] at hV
      have e3 : ¬ 0 < texts.length := by simp [hl]
      cases b3 <;> simp [-frame, h1, h2, h3, h4, h6, h133, h134, h135, hV, e2, e3]
      all_goals (try omega)
    · have hp := List.length_pos_iff.2 hl
      have e : decide (0 < texts.length) = true := decide_eq_true hp
      rw [e] at hV
      cases b3 <;> simp [-frame, h1, h2, h3, h4, h6, h133, h134, h135, hV, hp, show (1 : Int) ≤ texts.length by omega]
      all_goals (try omega)
theorem keyR5_01 (n : Nat) (id ver val tol pts fam set words secs rub : Int) (stem cont : ByteArray) (opts texts : List ByteArray) (choices assets : List Int) (V b3 : Bool) (hb3 : b3 = decide (rub = 0)) (n6 : texts.length ≤ n) (n7 : ∀ s, s ∈ texts → s.size ≤ n) (m6 : texts.length ≤ 9223372036854775806) (m7 : ∀ s, s ∈ texts → s.size ≤ 9223372036854775806) (hV : V = (false && (false && (b3 && textsB texts)))) (e1 : (opts = []) = False) (e2 : True = True) (e3 : (val = 0) = True) (e4 : (tol = 0) = False) : (ev Tryz.prog tab (n + 3)).callA 63 [It.pv ⟨id, ver, 5, stem, opts, choices, val, tol, texts, pts, cont, fam, set, words, secs, assets, rub⟩] = some [.val (.bool V)] := by
  have hq : ∀ z : ByteArray, strP z = .val (.string z) := fun _ => rfl
  rw [callA_fn rfl Tryz.func63 rfl rfl rfl]
  simp [-frame, Tryz.f63, It.pv, hq, e1, e2, e3, e4]
  refine loop_rule (fun d st => ∃ (i : Nat) (a : List (Nat × TV)), st = { tm := frameOf 183 a, sus := [], so := [(1, .box [TV.val (.int .i64 id), TV.val (.int .i64 ver), .val (.int .i64 5), .val (.string stem), .sl (opts.map strP), .sl (choices.map intP), .val (.int .i64 val), .val (.int .i64 tol), .sl (texts.map strP), .val (.int .i64 pts), .val (.string cont), .val (.int .i64 fam), .val (.int .i64 set), .val (.int .i64 words), .val (.int .i64 secs), .sl (assets.map intP), .val (.int .i64 rub)])] } ∧ look a 1 = .ptr 1 0 0 ∧ look a 2 = .val (.bool false) ∧ look a 3 = .val (.bool false) ∧ look a 4 = .val (.bool false) ∧ look a 6 = .val (.bool b3) ∧ look a 133 = .sl (texts.map strP) ∧ look a 134 = .val (.int .i64 texts.length) ∧ look a 135 = .val (.int .i64 i) ∧ d = texts.length - i ∧ i ≤ texts.length ∧ (List.range i).all (textAt texts) = true) ?_ _ texts.length _ (by omega) ⟨0, _, rfl, by simp, by simp, by simp, by simp, by simp [hb3], by simp [hq], by simp, by simp, rfl, by omega, by simp⟩
  rintro d st m ⟨i, a, rfl, h1, h2, h3, h4, h6, h133, h134, h135, rfl, hi, hall⟩ ih
  by_cases hlt : i < texts.length
  · obtain ⟨z, hc⟩ : ∃ z, texts[i]? = some z := ⟨texts[i], by simp⟩
    have hw := wrap_succ hlt (show texts.length ≤ 9223372036854775807 by omega)
    have w := normalized_r (n + 1) z _ rfl (by have := m7 z (List.mem_of_getElem? hc); omega) (by have := n7 z (List.mem_of_getElem? hc); omega)
    rw [hq] at w
    have hd : decide ((i : Int) < texts.length) = true := by simp [hlt]
    have hno : textAt texts i = false → V = false := fun h => by rw [hV]; unfold textsB; rw [range_not hlt h]; simp
    have hok : textAt texts i = (normB z.data.toList && (decide (i = 0) || match texts[i - 1]? with | some y => !strLe z y | none => true)) := by unfold textAt; rw [hc]; rfl
    cases hwi : normB z.data.toList with
    | true =>
      rw [hwi] at w hok
      by_cases h0 : 0 < i
      · obtain ⟨y, hy⟩ : ∃ y, texts[i - 1]? = some y := ⟨texts[i - 1], by simp⟩
        have hwm : IntKind.i64.wrap ((i : Int) - 1) = ((i - 1 : Nat) : Int) := by rw [wrap_i64 (by omega) (by omega)]; omega
        have hlm : i - 1 < texts.length := by omega
        have hzy : (Op.bytesLess z.toList y.toList || z.toList == y.toList) = strLe z y := rfl
        cases hb : strLe z y with
        | true =>
          rw [hb] at hzy
          have hV := hno (by rw [hok, hy]; simp [hb]; omega)
          simp [-frame, -getElem?_pos, -Bool.or_eq_true, h1, h2, h3, h4, h6, h133, h134, h135, hd, hc, hlt, hw, hq, w, h0, hwm, hy, hlm, hzy, hV]
        | false =>
          rw [hb] at hzy
          simp [-frame, -getElem?_pos, -Bool.or_eq_true, h1, h2, h3, h4, h6, h133, h134, h135, hd, hc, hlt, hw, hq, w, h0, hwm, hy, hlm, hzy]
          exact ih _ _ (by omega) ⟨i + 1, _, rfl, by simp [h1], by simp [h2], by simp [h3], by simp [h4], by simp [h6], by simp [h133], by simp [h134], by simp, rfl, by omega, range_all hall (by rw [hok, hy]; simp [hb])⟩
      · obtain rfl : i = 0 := by omega
        simp [-frame, -getElem?_pos, h1, h2, h3, h4, h6, h133, h134, h135, hd, hc, hlt, hw, hq, w]
        exact ih _ _ (by omega) ⟨0 + 1, _, rfl, by simp [h1], by simp [h2], by simp [h3], by simp [h4], by simp [h6], by simp [h133], by simp [h134], by simp [show IntKind.i64.wrap 1 = 1 from rfl], rfl, by omega, range_all hall (by rw [hok]; simp)⟩
    | false =>
      rw [hwi] at w hok
      have hV := hno (by rw [hok]; rfl)
      simp [-frame, -getElem?_pos, h1, h2, h3, h4, h6, h133, h134, h135, hd, hc, hlt, hw, hq, w, hV]
  · obtain rfl : i = texts.length := by omega
    unfold textsB at hV
    rw [hall, Bool.true_and] at hV
    by_cases hl : texts = []
    · have e : decide (0 < texts.length) = false := by simp [hl]
      have e2 : ¬ (1 : Int) ≤ texts.length := by simp [hl]
      rw [e] at hV
      have e3 : ¬ 0 < texts.length := by simp [hl]
      cases b3 <;> simp [-frame, h1, h2, h3, h4, h6, h133, h134, h135, hV, e2, e3]
      all_goals (try omega)
    · have hp := List.length_pos_iff.2 hl
      have e : decide (0 < texts.length) = true := decide_eq_true hp
      rw [e] at hV
      cases b3 <;> simp [-frame, h1, h2, h3, h4, h6, h133, h134, h135, hV, hp, show (1 : Int) ≤ texts.length by omega]
      all_goals (try omega)
theorem keyR5_02 (n : Nat) (id ver val tol pts fam set words secs rub : Int) (stem cont : ByteArray) (opts texts : List ByteArray) (choices assets : List Int) (V b3 : Bool) (hb3 : b3 = decide (rub = 0)) (n6 : texts.length ≤ n) (n7 : ∀ s, s ∈ texts → s.size ≤ n) (m6 : texts.length ≤ 9223372036854775806) (m7 : ∀ s, s ∈ texts → s.size ≤ 9223372036854775806) (hV : V = (false && (true && (b3 && textsB texts)))) (e1 : (opts = []) = False) (e2 : True = True) (e3 : (val = 0) = True) (e4 : (tol = 0) = True) : (ev Tryz.prog tab (n + 3)).callA 63 [It.pv ⟨id, ver, 5, stem, opts, choices, val, tol, texts, pts, cont, fam, set, words, secs, assets, rub⟩] = some [.val (.bool V)] := by
  have hq : ∀ z : ByteArray, strP z = .val (.string z) := fun _ => rfl
  rw [callA_fn rfl Tryz.func63 rfl rfl rfl]
  simp [-frame, Tryz.f63, It.pv, hq, e1, e2, e3, e4]
  refine loop_rule (fun d st => ∃ (i : Nat) (a : List (Nat × TV)), st = { tm := frameOf 183 a, sus := [], so := [(1, .box [TV.val (.int .i64 id), TV.val (.int .i64 ver), .val (.int .i64 5), .val (.string stem), .sl (opts.map strP), .sl (choices.map intP), .val (.int .i64 val), .val (.int .i64 tol), .sl (texts.map strP), .val (.int .i64 pts), .val (.string cont), .val (.int .i64 fam), .val (.int .i64 set), .val (.int .i64 words), .val (.int .i64 secs), .sl (assets.map intP), .val (.int .i64 rub)])] } ∧ look a 1 = .ptr 1 0 0 ∧ look a 2 = .val (.bool false) ∧ look a 3 = .val (.bool false) ∧ look a 4 = .val (.bool true) ∧ look a 6 = .val (.bool b3) ∧ look a 133 = .sl (texts.map strP) ∧ look a 134 = .val (.int .i64 texts.length) ∧ look a 135 = .val (.int .i64 i) ∧ d = texts.length - i ∧ i ≤ texts.length ∧ (List.range i).all (textAt texts) = true) ?_ _ texts.length _ (by omega) ⟨0, _, rfl, by simp, by simp, by simp, by simp, by simp [hb3], by simp [hq], by simp, by simp, rfl, by omega, by simp⟩
  rintro d st m ⟨i, a, rfl, h1, h2, h3, h4, h6, h133, h134, h135, rfl, hi, hall⟩ ih
  by_cases hlt : i < texts.length
  · obtain ⟨z, hc⟩ : ∃ z, texts[i]? = some z := ⟨texts[i], by simp⟩
    have hw := wrap_succ hlt (show texts.length ≤ 9223372036854775807 by omega)
    have w := normalized_r (n + 1) z _ rfl (by have := m7 z (List.mem_of_getElem? hc); omega) (by have := n7 z (List.mem_of_getElem? hc); omega)
    rw [hq] at w
    have hd : decide ((i : Int) < texts.length) = true := by simp [hlt]
    have hno : textAt texts i = false → V = false := fun h => by rw [hV]; unfold textsB; rw [range_not hlt h]; simp
    have hok : textAt texts i = (normB z.data.toList && (decide (i = 0) || match texts[i - 1]? with | some y => !strLe z y | none => true)) := by unfold textAt; rw [hc]; rfl
    cases hwi : normB z.data.toList with
    | true =>
      rw [hwi] at w hok
      by_cases h0 : 0 < i
      · obtain ⟨y, hy⟩ : ∃ y, texts[i - 1]? = some y := ⟨texts[i - 1], by simp⟩
        have hwm : IntKind.i64.wrap ((i : Int) - 1) = ((i - 1 : Nat) : Int) := by rw [wrap_i64 (by omega) (by omega)]; omega
        have hlm : i - 1 < texts.length := by omega
        have hzy : (Op.bytesLess z.toList y.toList || z.toList == y.toList) = strLe z y := rfl
        cases hb : strLe z y with
        | true =>
          rw [hb] at hzy
          have hV := hno (by rw [hok, hy]; simp [hb]; omega)
          simp [-frame, -getElem?_pos, -Bool.or_eq_true, h1, h2, h3, h4, h6, h133, h134, h135, hd, hc, hlt, hw, hq, w, h0, hwm, hy, hlm, hzy, hV]
        | false =>
          rw [hb] at hzy
          simp [-frame, -getElem?_pos, -Bool.or_eq_true, h1, h2, h3, h4, h6, h133, h134, h135, hd, hc, hlt, hw, hq, w, h0, hwm, hy, hlm, hzy]
          exact ih _ _ (by omega) ⟨i + 1, _, rfl, by simp [h1], by simp [h2], by simp [h3], by simp [h4], by simp [h6], by simp [h133], by simp [h134], by simp, rfl, by omega, range_all hall (by rw [hok, hy]; simp [hb])⟩
      · obtain rfl : i = 0 := by omega
        simp [-frame, -getElem?_pos, h1, h2, h3, h4, h6, h133, h134, h135, hd, hc, hlt, hw, hq, w]
        exact ih _ _ (by omega) ⟨0 + 1, _, rfl, by simp [h1], by simp [h2], by simp [h3], by simp [h4], by simp [h6], by simp [h133], by simp [h134], by simp [show IntKind.i64.wrap 1 = 1 from rfl], rfl, by omega, range_all hall (by rw [hok]; simp)⟩
    | false =>
      rw [hwi] at w hok
      have hV := hno (by rw [hok]; rfl)
      simp [-frame, -getElem?_pos, h1, h2, h3, h4, h6, h133, h134, h135, hd, hc, hlt, hw, hq, w, hV]
  · obtain rfl : i = texts.length := by omega
    unfold textsB at hV
    rw [hall, Bool.true_and] at hV
    by_cases hl : texts = []
    · have e : decide (0 < texts.length) = false := by simp [hl]
      have e2 : ¬ (1 : Int) ≤ texts.length := by simp [hl]
      rw [e] at hV
      have e3 : ¬ 0 < texts.length := by simp [hl]
      cases b3 <;> simp [-frame, h1, h2, h3, h4, h6, h133, h134, h135, hV, e2, e3]
      all_goals (try omega)
    · have hp := List.length_pos_iff.2 hl
      have e : decide (0 < texts.length) = true := decide_eq_true hp
      rw [e] at hV
      cases b3 <;> simp [-frame, h1, h2, h3, h4, h6, h133, h134, h135, hV, hp, show (1 : Int) ≤ texts.length by omega]
      all_goals (try omega)
theorem keyR5_10 (n : Nat) (id ver val tol pts fam set words secs rub : Int) (stem cont : ByteArray) (opts texts : List ByteArray) (choices assets : List Int) (V b3 : Bool) (hb3 : b3 = decide (rub = 0)) (n6 : texts.length ≤ n) (n7 : ∀ s, s ∈ texts → s.size ≤ n) (m6 : texts.length ≤ 9223372036854775806) (m7 : ∀ s, s ∈ texts → s.size ≤ 9223372036854775806) (hV : V = (false && (false && (b3 && textsB texts)))) (e1 : (opts = []) = True) (e2 : (choices = []) = False) (e3 : (val = 0) = False) (e4 : True = True) : (ev Tryz.prog tab (n + 3)).callA 63 [It.pv ⟨id, ver, 5, stem, opts, choices, val, tol, texts, pts, cont, fam, set, words, secs, assets, rub⟩] = some [.val (.bool V)] := by
  have hq : ∀ z : ByteArray, strP z = .val (.string z) := fun _ => rfl
  rw [callA_fn rfl Tryz.func63 rfl rfl rfl]
  simp [-frame, Tryz.f63, It.pv, hq, e1, e2, e3, e4]
  refine loop_rule (fun d st => ∃ (i : Nat) (a : List (Nat × TV)), st = { tm := frameOf 183 a, sus := [], so := [(1, .box [TV.val (.int .i64 id), TV.val (.int .i64 ver), .val (.int .i64 5), .val (.string stem), .sl (opts.map strP), .sl (choices.map intP), .val (.int .i64 val), .val (.int .i64 tol), .sl (texts.map strP), .val (.int .i64 pts), .val (.string cont), .val (.int .i64 fam), .val (.int .i64 set), .val (.int .i64 words), .val (.int .i64 secs), .sl (assets.map intP), .val (.int .i64 rub)])] } ∧ look a 1 = .ptr 1 0 0 ∧ look a 2 = .val (.bool false) ∧ look a 3 = .val (.bool false) ∧ look a 4 = .val (.bool false) ∧ look a 6 = .val (.bool b3) ∧ look a 133 = .sl (texts.map strP) ∧ look a 134 = .val (.int .i64 texts.length) ∧ look a 135 = .val (.int .i64 i) ∧ d = texts.length - i ∧ i ≤ texts.length ∧ (List.range i).all (textAt texts) = true) ?_ _ texts.length _ (by omega) ⟨0, _, rfl, by simp, by simp, by simp, by simp, by simp [hb3], by simp [hq], by simp, by simp, rfl, by omega, by simp⟩
  rintro d st m ⟨i, a, rfl, h1, h2, h3, h4, h6, h133, h134, h135, rfl, hi, hall⟩ ih
  by_cases hlt : i < texts.length
  · obtain ⟨z, hc⟩ : ∃ z, texts[i]? = some z := ⟨texts[i], by simp⟩
    have hw := wrap_succ hlt (show texts.length ≤ 9223372036854775807 by omega)
    have w := normalized_r (n + 1) z _ rfl (by have := m7 z (List.mem_of_getElem? hc); omega) (by have := n7 z (List.mem_of_getElem? hc); omega)
    rw [hq] at w
    have hd : decide ((i : Int) < texts.length) = true := by simp [hlt]
    have hno : textAt texts i = false → V = false := fun h => by rw [hV]; unfold textsB; rw [range_not hlt h]; simp
    have hok : textAt texts i = (normB z.data.toList && (decide (i = 0) || match texts[i - 1]? with | some y => !strLe z y | none => true)) := by unfold textAt; rw [hc]; rfl
    cases hwi : normB z.data.toList with
    | true =>
      rw [hwi] at w hok
      by_cases h0 : 0 < i
      · obtain ⟨y, hy⟩ : ∃ y, texts[i - 1]? = some y := ⟨texts[i - 1], by simp⟩
        have hwm : IntKind.i64.wrap ((i : Int) - 1) = ((i - 1 : Nat) : Int) := by rw [wrap_i64 (by omega) (by omega)]; omega
        have hlm : i - 1 < texts.length := by omega
        have hzy : (Op.bytesLess z.toList y.toList || z.toList == y.toList) = strLe z y := rfl
        cases hb : strLe z y with
        | true =>
          rw [hb] at hzy
          have hV := hno (by rw [hok, hy]; simp [hb]; omega)
          simp [-frame, -getElem?_pos, -Bool.or_eq_true, h1, h2, h3, h4, h6, h133, h134, h135, hd, hc, hlt, hw, hq, w, h0, hwm, hy, hlm, hzy, hV]
        | false =>
          rw [hb] at hzy
          simp [-frame, -getElem?_pos, -Bool.or_eq_true, h1, h2, h3, h4, h6, h133, h134, h135, hd, hc, hlt, hw, hq, w, h0, hwm, hy, hlm, hzy]
          exact ih _ _ (by omega) ⟨i + 1, _, rfl, by simp [h1], by simp [h2], by simp [h3], by simp [h4], by simp [h6], by simp [h133], by simp [h134], by simp, rfl, by omega, range_all hall (by rw [hok, hy]; simp [hb])⟩
      · obtain rfl : i = 0 := by omega
        simp [-frame, -getElem?_pos, h1, h2, h3, h4, h6, h133, h134, h135, hd, hc, hlt, hw, hq, w]
        exact ih _ _ (by omega) ⟨0 + 1, _, rfl, by simp [h1], by simp [h2], by simp [h3], by simp [h4], by simp [h6], by simp [h133], by simp [h134], by simp [show IntKind.i64.wrap 1 = 1 from rfl], rfl, by omega, range_all hall (by rw [hok]; simp)⟩
    | false =>
      rw [hwi] at w hok
      have hV := hno (by rw [hok]; rfl)
      simp [-frame, -getElem?_pos, h1, h2, h3, h4, h6, h133, h134, h135, hd, hc, hlt, hw, hq, w, hV]
  · obtain rfl : i = texts.length := by omega
    unfold textsB at hV
    rw [hall, Bool.true_and] at hV
    by_cases hl : texts = []
    · have e : decide (0 < texts.length) = false := by simp [hl]
      have e2 : ¬ (1 : Int) ≤ texts.length := by simp [hl]
      rw [e] at hV
      have e3 : ¬ 0 < texts.length := by simp [hl]
      cases b3 <;> simp [-frame, h1, h2, h3, h4, h6, h133, h134, h135, hV, e2, e3]
      all_goals (try omega)
    · have hp := List.length_pos_iff.2 hl
      have e : decide (0 < texts.length) = true := decide_eq_true hp
      rw [e] at hV
      cases b3 <;> simp [-frame, h1, h2, h3, h4, h6, h133, h134, h135, hV, hp, show (1 : Int) ≤ texts.length by omega]
      all_goals (try omega)
theorem keyR5_11 (n : Nat) (id ver val tol pts fam set words secs rub : Int) (stem cont : ByteArray) (opts texts : List ByteArray) (choices assets : List Int) (V b3 : Bool) (hb3 : b3 = decide (rub = 0)) (n6 : texts.length ≤ n) (n7 : ∀ s, s ∈ texts → s.size ≤ n) (m6 : texts.length ≤ 9223372036854775806) (m7 : ∀ s, s ∈ texts → s.size ≤ 9223372036854775806) (hV : V = (false && (false && (b3 && textsB texts)))) (e1 : (opts = []) = True) (e2 : (choices = []) = False) (e3 : (val = 0) = True) (e4 : (tol = 0) = False) : (ev Tryz.prog tab (n + 3)).callA 63 [It.pv ⟨id, ver, 5, stem, opts, choices, val, tol, texts, pts, cont, fam, set, words, secs, assets, rub⟩] = some [.val (.bool V)] := by
  have hq : ∀ z : ByteArray, strP z = .val (.string z) := fun _ => rfl
  rw [callA_fn rfl Tryz.func63 rfl rfl rfl]
  simp [-frame, Tryz.f63, It.pv, hq, e1, e2, e3, e4]
  refine loop_rule (fun d st => ∃ (i : Nat) (a : List (Nat × TV)), st = { tm := frameOf 183 a, sus := [], so := [(1, .box [TV.val (.int .i64 id), TV.val (.int .i64 ver), .val (.int .i64 5), .val (.string stem), .sl (opts.map strP), .sl (choices.map intP), .val (.int .i64 val), .val (.int .i64 tol), .sl (texts.map strP), .val (.int .i64 pts), .val (.string cont), .val (.int .i64 fam), .val (.int .i64 set), .val (.int .i64 words), .val (.int .i64 secs), .sl (assets.map intP), .val (.int .i64 rub)])] } ∧ look a 1 = .ptr 1 0 0 ∧ look a 2 = .val (.bool false) ∧ look a 3 = .val (.bool false) ∧ look a 4 = .val (.bool false) ∧ look a 6 = .val (.bool b3) ∧ look a 133 = .sl (texts.map strP) ∧ look a 134 = .val (.int .i64 texts.length) ∧ look a 135 = .val (.int .i64 i) ∧ d = texts.length - i ∧ i ≤ texts.length ∧ (List.range i).all (textAt texts) = true) ?_ _ texts.length _ (by omega) ⟨0, _, rfl, by simp, by simp, by simp, by simp, by simp [hb3], by simp [hq], by simp, by simp, rfl, by omega, by simp⟩
  rintro d st m ⟨i, a, rfl, h1, h2, h3, h4, h6, h133, h134, h135, rfl, hi, hall⟩ ih
  by_cases hlt : i < texts.length
  · obtain ⟨z, hc⟩ : ∃ z, texts[i]? = some z := ⟨texts[i], by simp⟩
    have hw := wrap_succ hlt (show texts.length ≤ 9223372036854775807 by omega)
    have w := normalized_r (n + 1) z _ rfl (by have := m7 z (List.mem_of_getElem? hc); omega) (by have := n7 z (List.mem_of_getElem? hc); omega)
    rw [hq] at w
    have hd : decide ((i : Int) < texts.length) = true := by simp [hlt]
    have hno : textAt texts i = false → V = false := fun h => by rw [hV]; unfold textsB; rw [range_not hlt h]; simp
    have hok : textAt texts i = (normB z.data.toList && (decide (i = 0) || match texts[i - 1]? with | some y => !strLe z y | none => true)) := by unfold textAt; rw [hc]; rfl
    cases hwi : normB z.data.toList with
    | true =>
      rw [hwi] at w hok
      by_cases h0 : 0 < i
      · obtain ⟨y, hy⟩ : ∃ y, texts[i - 1]? = some y := ⟨texts[i - 1], by simp⟩
        have hwm : IntKind.i64.wrap ((i : Int) - 1) = ((i - 1 : Nat) : Int) := by rw [wrap_i64 (by omega) (by omega)]; omega
        have hlm : i - 1 < texts.length := by omega
        have hzy : (Op.bytesLess z.toList y.toList || z.toList == y.toList) = strLe z y := rfl
        cases hb : strLe z y with
        | true =>
          rw [hb] at hzy
          have hV := hno (by rw [hok, hy]; simp [hb]; omega)
          simp [-frame, -getElem?_pos, -Bool.or_eq_true, h1, h2, h3, h4, h6, h133, h134, h135, hd, hc, hlt, hw, hq, w, h0, hwm, hy, hlm, hzy, hV]
        | false =>
          rw [hb] at hzy
          simp [-frame, -getElem?_pos, -Bool.or_eq_true, h1, h2, h3, h4, h6, h133, h134, h135, hd, hc, hlt, hw, hq, w, h0, hwm, hy, hlm, hzy]
          exact ih _ _ (by omega) ⟨i + 1, _, rfl, by simp [h1], by simp [h2], by simp [h3], by simp [h4], by simp [h6], by simp [h133], by simp [h134], by simp, rfl, by omega, range_all hall (by rw [hok, hy]; simp [hb])⟩
      · obtain rfl : i = 0 := by omega
        simp [-frame, -getElem?_pos, h1, h2, h3, h4, h6, h133, h134, h135, hd, hc, hlt, hw, hq, w]
        exact ih _ _ (by omega) ⟨0 + 1, _, rfl, by simp [h1], by simp [h2], by simp [h3], by simp [h4], by simp [h6], by simp [h133], by simp [h134], by simp [show IntKind.i64.wrap 1 = 1 from rfl], rfl, by omega, range_all hall (by rw [hok]; simp)⟩
    | false =>
      rw [hwi] at w hok
      have hV := hno (by rw [hok]; rfl)
      simp [-frame, -getElem?_pos, h1, h2, h3, h4, h6, h133, h134, h135, hd, hc, hlt, hw, hq, w, hV]
  · obtain rfl : i = texts.length := by omega
    unfold textsB at hV
    rw [hall, Bool.true_and] at hV
    by_cases hl : texts = []
    · have e : decide (0 < texts.length) = false := by simp [hl]
      have e2 : ¬ (1 : Int) ≤ texts.length := by simp [hl]
      rw [e] at hV
      have e3 : ¬ 0 < texts.length := by simp [hl]
      cases b3 <;> simp [-frame, h1, h2, h3, h4, h6, h133, h134, h135, hV, e2, e3]
      all_goals (try omega)
    · have hp := List.length_pos_iff.2 hl
      have e : decide (0 < texts.length) = true := decide_eq_true hp
      rw [e] at hV
      cases b3 <;> simp [-frame, h1, h2, h3, h4, h6, h133, h134, h135, hV, hp, show (1 : Int) ≤ texts.length by omega]
      all_goals (try omega)
theorem keyR5_12 (n : Nat) (id ver val tol pts fam set words secs rub : Int) (stem cont : ByteArray) (opts texts : List ByteArray) (choices assets : List Int) (V b3 : Bool) (hb3 : b3 = decide (rub = 0)) (n6 : texts.length ≤ n) (n7 : ∀ s, s ∈ texts → s.size ≤ n) (m6 : texts.length ≤ 9223372036854775806) (m7 : ∀ s, s ∈ texts → s.size ≤ 9223372036854775806) (hV : V = (false && (true && (b3 && textsB texts)))) (e1 : (opts = []) = True) (e2 : (choices = []) = False) (e3 : (val = 0) = True) (e4 : (tol = 0) = True) : (ev Tryz.prog tab (n + 3)).callA 63 [It.pv ⟨id, ver, 5, stem, opts, choices, val, tol, texts, pts, cont, fam, set, words, secs, assets, rub⟩] = some [.val (.bool V)] := by
  have hq : ∀ z : ByteArray, strP z = .val (.string z) := fun _ => rfl
  rw [callA_fn rfl Tryz.func63 rfl rfl rfl]
  simp [-frame, Tryz.f63, It.pv, hq, e1, e2, e3, e4]
  refine loop_rule (fun d st => ∃ (i : Nat) (a : List (Nat × TV)), st = { tm := frameOf 183 a, sus := [], so := [(1, .box [TV.val (.int .i64 id), TV.val (.int .i64 ver), .val (.int .i64 5), .val (.string stem), .sl (opts.map strP), .sl (choices.map intP), .val (.int .i64 val), .val (.int .i64 tol), .sl (texts.map strP), .val (.int .i64 pts), .val (.string cont), .val (.int .i64 fam), .val (.int .i64 set), .val (.int .i64 words), .val (.int .i64 secs), .sl (assets.map intP), .val (.int .i64 rub)])] } ∧ look a 1 = .ptr 1 0 0 ∧ look a 2 = .val (.bool false) ∧ look a 3 = .val (.bool false) ∧ look a 4 = .val (.bool true) ∧ look a 6 = .val (.bool b3) ∧ look a 133 = .sl (texts.map strP) ∧ look a 134 = .val (.int .i64 texts.length) ∧ look a 135 = .val (.int .i64 i) ∧ d = texts.length - i ∧ i ≤ texts.length ∧ (List.range i).all (textAt texts) = true) ?_ _ texts.length _ (by omega) ⟨0, _, rfl, by simp, by simp, by simp, by simp, by simp [hb3], by simp [hq], by simp, by simp, rfl, by omega, by simp⟩
  rintro d st m ⟨i, a, rfl, h1, h2, h3, h4, h6, h133, h134, h135, rfl, hi, hall⟩ ih
  by_cases hlt : i < texts.length
  · obtain ⟨z, hc⟩ : ∃ z, texts[i]? = some z := ⟨texts[i], by simp⟩
    have hw := wrap_succ hlt (show texts.length ≤ 9223372036854775807 by omega)
    have w := normalized_r (n + 1) z _ rfl (by have := m7 z (List.mem_of_getElem? hc); omega) (by have := n7 z (List.mem_of_getElem? hc); omega)
    rw [hq] at w
    have hd : decide ((i : Int) < texts.length) = true := by simp [hlt]
    have hno : textAt texts i = false → V = false := fun h => by rw [hV]; unfold textsB; rw [range_not hlt h]; simp
    have hok : textAt texts i = (normB z.data.toList && (decide (i = 0) || match texts[i - 1]? with | some y => !strLe z y | none => true)) := by unfold textAt; rw [hc]; rfl
    cases hwi : normB z.data.toList with
    | true =>
      rw [hwi] at w hok
      by_cases h0 : 0 < i
      · obtain ⟨y, hy⟩ : ∃ y, texts[i - 1]? = some y := ⟨texts[i - 1], by simp⟩
        have hwm : IntKind.i64.wrap ((i : Int) - 1) = ((i - 1 : Nat) : Int) := by rw [wrap_i64 (by omega) (by omega)]; omega
        have hlm : i - 1 < texts.length := by omega
        have hzy : (Op.bytesLess z.toList y.toList || z.toList == y.toList) = strLe z y := rfl
        cases hb : strLe z y with
        | true =>
          rw [hb] at hzy
          have hV := hno (by rw [hok, hy]; simp [hb]; omega)
          simp [-frame, -getElem?_pos, -Bool.or_eq_true, h1, h2, h3, h4, h6, h133, h134, h135, hd, hc, hlt, hw, hq, w, h0, hwm, hy, hlm, hzy, hV]
        | false =>
          rw [hb] at hzy
          simp [-frame, -getElem?_pos, -Bool.or_eq_true, h1, h2, h3, h4, h6, h133, h134, h135, hd, hc, hlt, hw, hq, w, h0, hwm, hy, hlm, hzy]
          exact ih _ _ (by omega) ⟨i + 1, _, rfl, by simp [h1], by simp [h2], by simp [h3], by simp [h4], by simp [h6], by simp [h133], by simp [h134], by simp, rfl, by omega, range_all hall (by rw [hok, hy]; simp [hb])⟩
      · obtain rfl : i = 0 := by omega
        simp [-frame, -getElem?_pos, h1, h2, h3, h4, h6, h133, h134, h135, hd, hc, hlt, hw, hq, w]
        exact ih _ _ (by omega) ⟨0 + 1, _, rfl, by simp [h1], by simp [h2], by simp [h3], by simp [h4], by simp [h6], by simp [h133], by simp [h134], by simp [show IntKind.i64.wrap 1 = 1 from rfl], rfl, by omega, range_all hall (by rw [hok]; simp)⟩
    | false =>
      rw [hwi] at w hok
      have hV := hno (by rw [hok]; rfl)
      simp [-frame, -getElem?_pos, h1, h2, h3, h4, h6, h133, h134, h135, hd, hc, hlt, hw, hq, w, hV]
  · obtain rfl : i = texts.length := by omega
    unfold textsB at hV
    rw [hall, Bool.true_and] at hV
    by_cases hl : texts = []
    · have e : decide (0 < texts.length) = false := by simp [hl]
      have e2 : ¬ (1 : Int) ≤ texts.length := by simp [hl]
      rw [e] at hV
      have e3 : ¬ 0 < texts.length := by simp [hl]
      cases b3 <;> simp [-frame, h1, h2, h3, h4, h6, h133, h134, h135, hV, e2, e3]
      all_goals (try omega)
    · have hp := List.length_pos_iff.2 hl
      have e : decide (0 < texts.length) = true := decide_eq_true hp
      rw [e] at hV
      cases b3 <;> simp [-frame, h1, h2, h3, h4, h6, h133, h134, h135, hV, hp, show (1 : Int) ≤ texts.length by omega]
      all_goals (try omega)
theorem keyR5_20 (n : Nat) (id ver val tol pts fam set words secs rub : Int) (stem cont : ByteArray) (opts texts : List ByteArray) (choices assets : List Int) (V b3 : Bool) (hb3 : b3 = decide (rub = 0)) (n6 : texts.length ≤ n) (n7 : ∀ s, s ∈ texts → s.size ≤ n) (m6 : texts.length ≤ 9223372036854775806) (m7 : ∀ s, s ∈ texts → s.size ≤ 9223372036854775806) (hV : V = (true && (false && (b3 && textsB texts)))) (e1 : (opts = []) = True) (e2 : (choices = []) = True) (e3 : (val = 0) = False) (e4 : True = True) : (ev Tryz.prog tab (n + 3)).callA 63 [It.pv ⟨id, ver, 5, stem, opts, choices, val, tol, texts, pts, cont, fam, set, words, secs, assets, rub⟩] = some [.val (.bool V)] := by
  have hq : ∀ z : ByteArray, strP z = .val (.string z) := fun _ => rfl
  rw [callA_fn rfl Tryz.func63 rfl rfl rfl]
  simp [-frame, Tryz.f63, It.pv, hq, e1, e2, e3, e4]
  refine loop_rule (fun d st => ∃ (i : Nat) (a : List (Nat × TV)), st = { tm := frameOf 183 a, sus := [], so := [(1, .box [TV.val (.int .i64 id), TV.val (.int .i64 ver), .val (.int .i64 5), .val (.string stem), .sl (opts.map strP), .sl (choices.map intP), .val (.int .i64 val), .val (.int .i64 tol), .sl (texts.map strP), .val (.int .i64 pts), .val (.string cont), .val (.int .i64 fam), .val (.int .i64 set), .val (.int .i64 words), .val (.int .i64 secs), .sl (assets.map intP), .val (.int .i64 rub)])] } ∧ look a 1 = .ptr 1 0 0 ∧ look a 2 = .val (.bool false) ∧ look a 3 = .val (.bool true) ∧ look a 4 = .val (.bool false) ∧ look a 6 = .val (.bool b3) ∧ look a 133 = .sl (texts.map strP) ∧ look a 134 = .val (.int .i64 texts.length) ∧ look a 135 = .val (.int .i64 i) ∧ d = texts.length - i ∧ i ≤ texts.length ∧ (List.range i).all (textAt texts) = true) ?_ _ texts.length _ (by omega) ⟨0, _, rfl, by simp, by simp, by simp, by simp, by simp [hb3], by simp [hq], by simp, by simp, rfl, by omega, by simp⟩
  rintro d st m ⟨i, a, rfl, h1, h2, h3, h4, h6, h133, h134, h135, rfl, hi, hall⟩ ih
  by_cases hlt : i < texts.length
  · obtain ⟨z, hc⟩ : ∃ z, texts[i]? = some z := ⟨texts[i], by simp⟩
    have hw := wrap_succ hlt (show texts.length ≤ 9223372036854775807 by omega)
    have w := normalized_r (n + 1) z _ rfl (by have := m7 z (List.mem_of_getElem? hc); omega) (by have := n7 z (List.mem_of_getElem? hc); omega)
    rw [hq] at w
    have hd : decide ((i : Int) < texts.length) = true := by simp [hlt]
    have hno : textAt texts i = false → V = false := fun h => by rw [hV]; unfold textsB; rw [range_not hlt h]; simp
    have hok : textAt texts i = (normB z.data.toList && (decide (i = 0) || match texts[i - 1]? with | some y => !strLe z y | none => true)) := by unfold textAt; rw [hc]; rfl
    cases hwi : normB z.data.toList with
    | true =>
      rw [hwi] at w hok
      by_cases h0 : 0 < i
      · obtain ⟨y, hy⟩ : ∃ y, texts[i - 1]? = some y := ⟨texts[i - 1], by simp⟩
        have hwm : IntKind.i64.wrap ((i : Int) - 1) = ((i - 1 : Nat) : Int) := by rw [wrap_i64 (by omega) (by omega)]; omega
        have hlm : i - 1 < texts.length := by omega
        have hzy : (Op.bytesLess z.toList y.toList || z.toList == y.toList) = strLe z y := rfl
        cases hb : strLe z y with
        | true =>
          rw [hb] at hzy
          have hV := hno (by rw [hok, hy]; simp [hb]; omega)
          simp [-frame, -getElem?_pos, -Bool.or_eq_true, h1, h2, h3, h4, h6, h133, h134, h135, hd, hc, hlt, hw, hq, w, h0, hwm, hy, hlm, hzy, hV]
        | false =>
          rw [hb] at hzy
          simp [-frame, -getElem?_pos, -Bool.or_eq_true, h1, h2, h3, h4, h6, h133, h134, h135, hd, hc, hlt, hw, hq, w, h0, hwm, hy, hlm, hzy]
          exact ih _ _ (by omega) ⟨i + 1, _, rfl, by simp [h1], by simp [h2], by simp [h3], by simp [h4], by simp [h6], by simp [h133], by simp [h134], by simp, rfl, by omega, range_all hall (by rw [hok, hy]; simp [hb])⟩
      · obtain rfl : i = 0 := by omega
        simp [-frame, -getElem?_pos, h1, h2, h3, h4, h6, h133, h134, h135, hd, hc, hlt, hw, hq, w]
        exact ih _ _ (by omega) ⟨0 + 1, _, rfl, by simp [h1], by simp [h2], by simp [h3], by simp [h4], by simp [h6], by simp [h133], by simp [h134], by simp [show IntKind.i64.wrap 1 = 1 from rfl], rfl, by omega, range_all hall (by rw [hok]; simp)⟩
    | false =>
      rw [hwi] at w hok
      have hV := hno (by rw [hok]; rfl)
      simp [-frame, -getElem?_pos, h1, h2, h3, h4, h6, h133, h134, h135, hd, hc, hlt, hw, hq, w, hV]
  · obtain rfl : i = texts.length := by omega
    unfold textsB at hV
    rw [hall, Bool.true_and] at hV
    by_cases hl : texts = []
    · have e : decide (0 < texts.length) = false := by simp [hl]
      have e2 : ¬ (1 : Int) ≤ texts.length := by simp [hl]
      rw [e] at hV
      have e3 : ¬ 0 < texts.length := by simp [hl]
      cases b3 <;> simp [-frame, h1, h2, h3, h4, h6, h133, h134, h135, hV, e2, e3]
      all_goals (try omega)
    · have hp := List.length_pos_iff.2 hl
      have e : decide (0 < texts.length) = true := decide_eq_true hp
      rw [e] at hV
      cases b3 <;> simp [-frame, h1, h2, h3, h4, h6, h133, h134, h135, hV, hp, show (1 : Int) ≤ texts.length by omega]
      all_goals (try omega)
theorem keyR5_21 (n : Nat) (id ver val tol pts fam set words secs rub : Int) (stem cont : ByteArray) (opts texts : List ByteArray) (choices assets : List Int) (V b3 : Bool) (hb3 : b3 = decide (rub = 0)) (n6 : texts.length ≤ n) (n7 : ∀ s, s ∈ texts → s.size ≤ n) (m6 : texts.length ≤ 9223372036854775806) (m7 : ∀ s, s ∈ texts → s.size ≤ 9223372036854775806) (hV : V = (true && (false && (b3 && textsB texts)))) (e1 : (opts = []) = True) (e2 : (choices = []) = True) (e3 : (val = 0) = True) (e4 : (tol = 0) = False) : (ev Tryz.prog tab (n + 3)).callA 63 [It.pv ⟨id, ver, 5, stem, opts, choices, val, tol, texts, pts, cont, fam, set, words, secs, assets, rub⟩] = some [.val (.bool V)] := by
  have hq : ∀ z : ByteArray, strP z = .val (.string z) := fun _ => rfl
  rw [callA_fn rfl Tryz.func63 rfl rfl rfl]
  simp [-frame, Tryz.f63, It.pv, hq, e1, e2, e3, e4]
  refine loop_rule (fun d st => ∃ (i : Nat) (a : List (Nat × TV)), st = { tm := frameOf 183 a, sus := [], so := [(1, .box [TV.val (.int .i64 id), TV.val (.int .i64 ver), .val (.int .i64 5), .val (.string stem), .sl (opts.map strP), .sl (choices.map intP), .val (.int .i64 val), .val (.int .i64 tol), .sl (texts.map strP), .val (.int .i64 pts), .val (.string cont), .val (.int .i64 fam), .val (.int .i64 set), .val (.int .i64 words), .val (.int .i64 secs), .sl (assets.map intP), .val (.int .i64 rub)])] } ∧ look a 1 = .ptr 1 0 0 ∧ look a 2 = .val (.bool false) ∧ look a 3 = .val (.bool true) ∧ look a 4 = .val (.bool false) ∧ look a 6 = .val (.bool b3) ∧ look a 133 = .sl (texts.map strP) ∧ look a 134 = .val (.int .i64 texts.length) ∧ look a 135 = .val (.int .i64 i) ∧ d = texts.length - i ∧ i ≤ texts.length ∧ (List.range i).all (textAt texts) = true) ?_ _ texts.length _ (by omega) ⟨0, _, rfl, by simp, by simp, by simp, by simp, by simp [hb3], by simp [hq], by simp, by simp, rfl, by omega, by simp⟩
  rintro d st m ⟨i, a, rfl, h1, h2, h3, h4, h6, h133, h134, h135, rfl, hi, hall⟩ ih
  by_cases hlt : i < texts.length
  · obtain ⟨z, hc⟩ : ∃ z, texts[i]? = some z := ⟨texts[i], by simp⟩
    have hw := wrap_succ hlt (show texts.length ≤ 9223372036854775807 by omega)
    have w := normalized_r (n + 1) z _ rfl (by have := m7 z (List.mem_of_getElem? hc); omega) (by have := n7 z (List.mem_of_getElem? hc); omega)
    rw [hq] at w
    have hd : decide ((i : Int) < texts.length) = true := by simp [hlt]
    have hno : textAt texts i = false → V = false := fun h => by rw [hV]; unfold textsB; rw [range_not hlt h]; simp
    have hok : textAt texts i = (normB z.data.toList && (decide (i = 0) || match texts[i - 1]? with | some y => !strLe z y | none => true)) := by unfold textAt; rw [hc]; rfl
    cases hwi : normB z.data.toList with
    | true =>
      rw [hwi] at w hok
      by_cases h0 : 0 < i
      · obtain ⟨y, hy⟩ : ∃ y, texts[i - 1]? = some y := ⟨texts[i - 1], by simp⟩
        have hwm : IntKind.i64.wrap ((i : Int) - 1) = ((i - 1 : Nat) : Int) := by rw [wrap_i64 (by omega) (by omega)]; omega
        have hlm : i - 1 < texts.length := by omega
        have hzy : (Op.bytesLess z.toList y.toList || z.toList == y.toList) = strLe z y := rfl
        cases hb : strLe z y with
        | true =>
          rw [hb] at hzy
          have hV := hno (by rw [hok, hy]; simp [hb]; omega)
          simp [-frame, -getElem?_pos, -Bool.or_eq_true, h1, h2, h3, h4, h6, h133, h134, h135, hd, hc, hlt, hw, hq, w, h0, hwm, hy, hlm, hzy, hV]
        | false =>
          rw [hb] at hzy
          simp [-frame, -getElem?_pos, -Bool.or_eq_true, h1, h2, h3, h4, h6, h133, h134, h135, hd, hc, hlt, hw, hq, w, h0, hwm, hy, hlm, hzy]
          exact ih _ _ (by omega) ⟨i + 1, _, rfl, by simp [h1], by simp [h2], by simp [h3], by simp [h4], by simp [h6], by simp [h133], by simp [h134], by simp, rfl, by omega, range_all hall (by rw [hok, hy]; simp [hb])⟩
      · obtain rfl : i = 0 := by omega
        simp [-frame, -getElem?_pos, h1, h2, h3, h4, h6, h133, h134, h135, hd, hc, hlt, hw, hq, w]
        exact ih _ _ (by omega) ⟨0 + 1, _, rfl, by simp [h1], by simp [h2], by simp [h3], by simp [h4], by simp [h6], by simp [h133], by simp [h134], by simp [show IntKind.i64.wrap 1 = 1 from rfl], rfl, by omega, range_all hall (by rw [hok]; simp)⟩
    | false =>
      rw [hwi] at w hok
      have hV := hno (by rw [hok]; rfl)
      simp [-frame, -getElem?_pos, h1, h2, h3, h4, h6, h133, h134, h135, hd, hc, hlt, hw, hq, w, hV]
  · obtain rfl : i = texts.length := by omega
    unfold textsB at hV
    rw [hall, Bool.true_and] at hV
    by_cases hl : texts = []
    · have e : decide (0 < texts.length) = false := by simp [hl]
      have e2 : ¬ (1 : Int) ≤ texts.length := by simp [hl]
      rw [e] at hV
      have e3 : ¬ 0 < texts.length := by simp [hl]
      cases b3 <;> simp [-frame, h1, h2, h3, h4, h6, h133, h134, h135, hV, e2, e3]
      all_goals (try omega)
    · have hp := List.length_pos_iff.2 hl
      have e : decide (0 < texts.length) = true := decide_eq_true hp
      rw [e] at hV
      cases b3 <;> simp [-frame, h1, h2, h3, h4, h6, h133, h134, h135, hV, hp, show (1 : Int) ≤ texts.length by omega]
      all_goals (try omega)
theorem keyR5_22 (n : Nat) (id ver val tol pts fam set words secs rub : Int) (stem cont : ByteArray) (opts texts : List ByteArray) (choices assets : List Int) (V b3 : Bool) (hb3 : b3 = decide (rub = 0)) (n6 : texts.length ≤ n) (n7 : ∀ s, s ∈ texts → s.size ≤ n) (m6 : texts.length ≤ 9223372036854775806) (m7 : ∀ s, s ∈ texts → s.size ≤ 9223372036854775806) (hV : V = (true && (true && (b3 && textsB texts)))) (e1 : (opts = []) = True) (e2 : (choices = []) = True) (e3 : (val = 0) = True) (e4 : (tol = 0) = True) : (ev Tryz.prog tab (n + 3)).callA 63 [It.pv ⟨id, ver, 5, stem, opts, choices, val, tol, texts, pts, cont, fam, set, words, secs, assets, rub⟩] = some [.val (.bool V)] := by
  have hq : ∀ z : ByteArray, strP z = .val (.string z) := fun _ => rfl
  rw [callA_fn rfl Tryz.func63 rfl rfl rfl]
  simp [-frame, Tryz.f63, It.pv, hq, e1, e2, e3, e4]
  refine loop_rule (fun d st => ∃ (i : Nat) (a : List (Nat × TV)), st = { tm := frameOf 183 a, sus := [], so := [(1, .box [TV.val (.int .i64 id), TV.val (.int .i64 ver), .val (.int .i64 5), .val (.string stem), .sl (opts.map strP), .sl (choices.map intP), .val (.int .i64 val), .val (.int .i64 tol), .sl (texts.map strP), .val (.int .i64 pts), .val (.string cont), .val (.int .i64 fam), .val (.int .i64 set), .val (.int .i64 words), .val (.int .i64 secs), .sl (assets.map intP), .val (.int .i64 rub)])] } ∧ look a 1 = .ptr 1 0 0 ∧ look a 2 = .val (.bool false) ∧ look a 3 = .val (.bool true) ∧ look a 4 = .val (.bool true) ∧ look a 6 = .val (.bool b3) ∧ look a 133 = .sl (texts.map strP) ∧ look a 134 = .val (.int .i64 texts.length) ∧ look a 135 = .val (.int .i64 i) ∧ d = texts.length - i ∧ i ≤ texts.length ∧ (List.range i).all (textAt texts) = true) ?_ _ texts.length _ (by omega) ⟨0, _, rfl, by simp, by simp, by simp, by simp, by simp [hb3], by simp [hq], by simp, by simp, rfl, by omega, by simp⟩
  rintro d st m ⟨i, a, rfl, h1, h2, h3, h4, h6, h133, h134, h135, rfl, hi, hall⟩ ih
  by_cases hlt : i < texts.length
  · obtain ⟨z, hc⟩ : ∃ z, texts[i]? = some z := ⟨texts[i], by simp⟩
    have hw := wrap_succ hlt (show texts.length ≤ 9223372036854775807 by omega)
    have w := normalized_r (n + 1) z _ rfl (by have := m7 z (List.mem_of_getElem? hc); omega) (by have := n7 z (List.mem_of_getElem? hc); omega)
    rw [hq] at w
    have hd : decide ((i : Int) < texts.length) = true := by simp [hlt]
    have hno : textAt texts i = false → V = false := fun h => by rw [hV]; unfold textsB; rw [range_not hlt h]; simp
    have hok : textAt texts i = (normB z.data.toList && (decide (i = 0) || match texts[i - 1]? with | some y => !strLe z y | none => true)) := by unfold textAt; rw [hc]; rfl
    cases hwi : normB z.data.toList with
    | true =>
      rw [hwi] at w hok
      by_cases h0 : 0 < i
      · obtain ⟨y, hy⟩ : ∃ y, texts[i - 1]? = some y := ⟨texts[i - 1], by simp⟩
        have hwm : IntKind.i64.wrap ((i : Int) - 1) = ((i - 1 : Nat) : Int) := by rw [wrap_i64 (by omega) (by omega)]; omega
        have hlm : i - 1 < texts.length := by omega
        have hzy : (Op.bytesLess z.toList y.toList || z.toList == y.toList) = strLe z y := rfl
        cases hb : strLe z y with
        | true =>
          rw [hb] at hzy
          have hV := hno (by rw [hok, hy]; simp [hb]; omega)
          simp [-frame, -getElem?_pos, -Bool.or_eq_true, h1, h2, h3, h4, h6, h133, h134, h135, hd, hc, hlt, hw, hq, w, h0, hwm, hy, hlm, hzy, hV]
        | false =>
          rw [hb] at hzy
          simp [-frame, -getElem?_pos, -Bool.or_eq_true, h1, h2, h3, h4, h6, h133, h134, h135, hd, hc, hlt, hw, hq, w, h0, hwm, hy, hlm, hzy]
          exact ih _ _ (by omega) ⟨i + 1, _, rfl, by simp [h1], by simp [h2], by simp [h3], by simp [h4], by simp [h6], by simp [h133], by simp [h134], by simp, rfl, by omega, range_all hall (by rw [hok, hy]; simp [hb])⟩
      · obtain rfl : i = 0 := by omega
        simp [-frame, -getElem?_pos, h1, h2, h3, h4, h6, h133, h134, h135, hd, hc, hlt, hw, hq, w]
        exact ih _ _ (by omega) ⟨0 + 1, _, rfl, by simp [h1], by simp [h2], by simp [h3], by simp [h4], by simp [h6], by simp [h133], by simp [h134], by simp [show IntKind.i64.wrap 1 = 1 from rfl], rfl, by omega, range_all hall (by rw [hok]; simp)⟩
    | false =>
      rw [hwi] at w hok
      have hV := hno (by rw [hok]; rfl)
      simp [-frame, -getElem?_pos, h1, h2, h3, h4, h6, h133, h134, h135, hd, hc, hlt, hw, hq, w, hV]
  · obtain rfl : i = texts.length := by omega
    unfold textsB at hV
    rw [hall, Bool.true_and] at hV
    by_cases hl : texts = []
    · have e : decide (0 < texts.length) = false := by simp [hl]
      have e2 : ¬ (1 : Int) ≤ texts.length := by simp [hl]
      rw [e] at hV
      have e3 : ¬ 0 < texts.length := by simp [hl]
      cases b3 <;> simp [-frame, h1, h2, h3, h4, h6, h133, h134, h135, hV, e2, e3]
      all_goals (try omega)
    · have hp := List.length_pos_iff.2 hl
      have e : decide (0 < texts.length) = true := decide_eq_true hp
      rw [e] at hV
      cases b3 <;> simp [-frame, h1, h2, h3, h4, h6, h133, h134, h135, hV, hp, show (1 : Int) ≤ texts.length by omega]
      all_goals (try omega)
theorem keyR5 (n : Nat) (it : It) (hn : it.Fit n) (hm : it.Fit 9223372036854775806) (hk : it.kind = 5) : (ev Tryz.prog tab (n + 3)).callA 63 [it.pv] = some [.val (.bool (keyR it))] := by
  obtain ⟨V, hV⟩ : ∃ V, V = keyR it := ⟨_, rfl⟩
  rw [← hV]
  obtain ⟨id, ver, kind, stem, opts, choices, val, tol, texts, pts, cont, fam, set, words, secs, assets, rub⟩ := it
  obtain ⟨n1, n2, n3, n4, n5, n6, n7, n8⟩ := hn
  obtain ⟨m1, m2, m3, m4, m5, m6, m7, m8⟩ := hm
  simp only at n1 n2 n3 n4 n5 n6 n7 n8 m1 m2 m3 m4 m5 m6 m7 m8 hk
  subst hk
  rw [keyR5v] at hV
  have h1 : ∃ b1 : Bool, (decide (opts = []) && decide (choices = [])) = b1 ∧ (((opts = []) = False ∧ True = True ∧ b1 = false) ∨ ((opts = []) = True ∧ (choices = []) = False ∧ b1 = false) ∨ ((opts = []) = True ∧ (choices = []) = True ∧ b1 = true)) := by
    refine ⟨_, rfl, ?_⟩
    by_cases c1 : opts = [] <;> by_cases c2 : choices = [] <;> simp [c1, c2]
  have h2 : ∃ b2 : Bool, (decide (val = 0) && decide (tol = 0)) = b2 ∧ (((val = 0) = False ∧ True = True ∧ b2 = false) ∨ ((val = 0) = True ∧ (tol = 0) = False ∧ b2 = false) ∨ ((val = 0) = True ∧ (tol = 0) = True ∧ b2 = true)) := by
    refine ⟨_, rfl, ?_⟩
    by_cases c1 : val = 0 <;> by_cases c2 : tol = 0 <;> simp [c1, c2]
  obtain ⟨b1, hb1, h1⟩ := h1
  obtain ⟨b2, hb2, h2⟩ := h2
  rw [hb1, hb2] at hV
  obtain ⟨b3, hb3⟩ : ∃ b3, b3 = decide (rub = 0) := ⟨_, rfl⟩
  rw [← hb3] at hV
  clear hb1 hb2
  rcases h1 with ⟨e1, e2, rfl⟩ | ⟨e1, e2, rfl⟩ | ⟨e1, e2, rfl⟩ <;> rcases h2 with ⟨e3, e4, rfl⟩ | ⟨e3, e4, rfl⟩ | ⟨e3, e4, rfl⟩
  · exact keyR5_00 n id ver val tol pts fam set words secs rub stem cont opts texts choices assets V b3 hb3 n6 n7 m6 m7 hV e1 e2 e3 e4
  · exact keyR5_01 n id ver val tol pts fam set words secs rub stem cont opts texts choices assets V b3 hb3 n6 n7 m6 m7 hV e1 e2 e3 e4
  · exact keyR5_02 n id ver val tol pts fam set words secs rub stem cont opts texts choices assets V b3 hb3 n6 n7 m6 m7 hV e1 e2 e3 e4
  · exact keyR5_10 n id ver val tol pts fam set words secs rub stem cont opts texts choices assets V b3 hb3 n6 n7 m6 m7 hV e1 e2 e3 e4
  · exact keyR5_11 n id ver val tol pts fam set words secs rub stem cont opts texts choices assets V b3 hb3 n6 n7 m6 m7 hV e1 e2 e3 e4
  · exact keyR5_12 n id ver val tol pts fam set words secs rub stem cont opts texts choices assets V b3 hb3 n6 n7 m6 m7 hV e1 e2 e3 e4
  · exact keyR5_20 n id ver val tol pts fam set words secs rub stem cont opts texts choices assets V b3 hb3 n6 n7 m6 m7 hV e1 e2 e3 e4
  · exact keyR5_21 n id ver val tol pts fam set words secs rub stem cont opts texts choices assets V b3 hb3 n6 n7 m6 m7 hV e1 e2 e3 e4
  · exact keyR5_22 n id ver val tol pts fam set words secs rub stem cont opts texts choices assets V b3 hb3 n6 n7 m6 m7 hV e1 e2 e3 e4
end Go.Proofs.YtlhjljplfmmoaaaGreatDoor.Ev
