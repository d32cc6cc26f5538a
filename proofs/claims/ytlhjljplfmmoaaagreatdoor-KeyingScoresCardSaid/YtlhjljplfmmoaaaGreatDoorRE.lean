/- The reference's multi, place, order and Normal: what they compute. -/
import Derived.Test.YtlhjljplfmmoaaaGreatDoorRC
import Derived.Test.YtlhjljplfmmoaaaGreatDoorF19
import Derived.Test.YtlhjljplfmmoaaaGreatDoorFS
namespace Go.Proofs.YtlhjljplfmmoaaaGreatDoor.Ev
open Go
set_option linter.unusedSimpArgs false
set_option linter.unusedVariables false
set_option maxRecDepth 10000
set_option maxHeartbeats 4000000
theorem cnt_one {cs : List Int} (hn : cs.Nodup) (z : Int) : cntB (fun y => decide (y = z)) cs = if memB cs z = true then 1 else 0 := by
  have h1 := cnt_nodup.1 hn z
  by_cases h : z ∈ cs
  · rw [if_pos (memB_iff.2 h)]
    have := cnt_mem.1 h
    omega
  · rw [if_neg (by rw [memB_iff]; exact h)]
    have : ¬ 1 ≤ cntB (fun y => decide (y = z)) cs := fun e => h (cnt_mem.2 e)
    omega
theorem multi_r (n : Nat) (it : It) (zs : List Int) (hz : zs.length ≤ 1000000) (hzn : zs.length ≤ n) (hc : it.choices.length ≤ 1000000) (hcn : it.choices.length ≤ n) (hp0 : 0 ≤ it.pts) (hp : it.pts ≤ 5) (hd : 0 < it.choices.length) (hnd : it.choices.Nodup) :
    (ev Tryz.prog tab (n + 2)).callA 25 [it.pv, .sl (zs.map intP)] = some [intP (shareI it.pts (2 * (cntB (memB it.choices) zs : Int) - zs.length) it.choices.length)] := by
  obtain ⟨id, ver, kind, stem, opts, choices, val, tol, texts, pts, cont, fam, set, words, secs, assets, rub⟩ := it
  simp only at hc hcn hp0 hp hd hnd
  have hq : ∀ z : Int, intP z = .val (.int .i64 z) := fun _ => rfl
  have hle := cntB_le (memB choices) zs
  have wcnt : ∀ z, (ev Tryz.prog tab (n + 1)).callA 58 [.sl (choices.map intP), .val (.int .i64 z)] = some [.val (.int .i64 (if memB choices z = true then (1 : Nat) else 0 : Nat))] := fun z => by
    have := count_r n choices z (by omega) hcn
    rw [cnt_one hnd] at this
    simpa only [hq] using this
  obtain ⟨V, hV⟩ : ∃ V, V = shareI pts (2 * (cntB (memB choices) zs : Int) - zs.length) choices.length := ⟨_, rfl⟩
  rw [← hV]
  rw [callA_fn rfl Tryz.func25 rfl rfl rfl]
  simp [-frame, Tryz.f25, It.pv, hq]
  refine loop_rule (fun d st => ∃ (i r : Nat) (a : List (Nat × TV)), st = { tm := frameOf 39 a, sus := [], so := [(2, .box [TV.val (.int .i64 id), TV.val (.int .i64 ver), .val (.int .i64 kind), .val (.string stem), .sl (opts.map strP), .sl (choices.map intP), .val (.int .i64 val), .val (.int .i64 tol), .sl (texts.map strP), .val (.int .i64 pts), .val (.string cont), .val (.int .i64 fam), .val (.int .i64 set), .val (.int .i64 words), .val (.int .i64 secs), .sl (assets.map intP), .val (.int .i64 rub)])] } ∧ look a 2 = .ptr 2 0 0 ∧ look a 1 = .sl (zs.map intP) ∧ look a 9 = .sl (zs.map intP) ∧ look a 10 = .val (.int .i64 zs.length) ∧ look a 11 = .val (.int .i64 i) ∧ look a 5 = .val (.int .i64 r) ∧ d = zs.length - i ∧ i ≤ zs.length ∧ r + cntB (memB choices) (zs.drop i) = cntB (memB choices) zs) ?_ _ zs.length _ (by omega) ⟨0, 0, _, rfl, by simp, by simp, by simp, by simp, by simp, by simp, rfl, by omega, by simp⟩
  rintro d st m ⟨i, r, a, rfl, h2, h1, h8, h9, h10, h5, rfl, hi, hr⟩ ih
  by_cases hlt : i < zs.length
  · obtain ⟨z, hz'⟩ : ∃ z, zs[i]? = some z := ⟨zs[i], by simp⟩
    have hw := wrap_succ hlt (show zs.length ≤ 9223372036854775807 by omega)
    have hd : decide ((i : Int) < zs.length) = true := by simp [hlt]
    have wc := wcnt z
    rw [drop_cons hz', cntB] at hr
    have hwr : IntKind.i64.wrap ((r : Int) + 1) = (r : Int) + 1 := wrap_i64 (by omega) (by omega)
    have hwr0 : IntKind.i64.wrap (r : Int) = (r : Int) := wrap_i64 (by omega) (by omega)
    cases hb : memB choices z with
    | true =>
      rw [hb] at wc hr
      rw [if_pos rfl] at wc hr
      simp [-frame, -getElem?_pos, h2, h1, h8, h9, h10, h5, hd, hz', hlt, hw, hwr, hq, wc]
      exact ih _ _ (by omega) ⟨i + 1, r + 1, _, rfl, by simp [h2], by simp [h1], by simp [h8], by simp [h9], by simp, by simp, rfl, by omega, by omega⟩
    | false =>
      rw [hb] at wc hr
      rw [if_neg (by simp)] at wc hr
      simp [-frame, -getElem?_pos, h2, h1, h8, h9, h10, h5, hd, hz', hlt, hw, hwr0, hq, wc]
      exact ih _ _ (by omega) ⟨i + 1, r, _, rfl, by simp [h2], by simp [h1], by simp [h8], by simp [h9], by simp, by simp [h5], rfl, by omega, by omega⟩
  · obtain rfl : i = zs.length := by omega
    rw [List.drop_length] at hr
    have hr' : r = cntB (memB choices) zs := by simpa [cntB] using hr
    subst hr'
    obtain ⟨r, hrr⟩ : ∃ r, r = cntB (memB choices) zs := ⟨_, rfl⟩
    rw [← hrr] at h5 hV hle
    have hw1 : IntKind.i64.wrap ((zs.length : Int) - r) = (zs.length : Int) - r := wrap_i64 (by omega) (by omega)
    have hd0 : ¬ (choices.length : Int) = 0 := by omega
    by_cases hlt2 : (r : Int) < (zs.length : Int) - r
    · have hV0 : V = 0 := by
        rw [hV]; unfold shareI
        rw [if_pos (by omega)]; simp
      simp [-frame, h2, h1, h8, h9, h10, h5, hw1, hlt2, hq, hV0]
    · have e1 : (r : Int) - ((zs.length : Int) - r) = 2 * r - zs.length := by omega
      have hw2 : IntKind.i64.wrap ((r : Int) - ((zs.length : Int) - r)) = 2 * r - zs.length := by rw [e1]; exact wrap_i64 (by omega) (by omega)
      obtain ⟨q, hqq⟩ : ∃ q : Int, q = 2 * r - zs.length := ⟨_, rfl⟩
      rw [← hqq] at hV hw2
      have hq0 : 0 ≤ q := by omega
      have hq1 : q ≤ 1000000 := by omega
      have hb : 0 ≤ q * pts := Int.mul_nonneg hq0 hp0
      have hb2 : q * pts ≤ 1000000 * 5 := Int.mul_le_mul hq1 hp hp0 (by omega)
      have hw3 : IntKind.i64.wrap (q * pts) = q * pts := wrap_i64 (by omega) (by omega)
      have hb3 : 0 ≤ (q * pts).tdiv choices.length := Int.tdiv_nonneg hb (by omega)
      have hb4 : (q * pts).tdiv choices.length ≤ q * pts := Int.tdiv_le_self _ hb
      have hw4 : IntKind.i64.wrap ((q * pts).tdiv choices.length) = (q * pts).tdiv choices.length := wrap_i64 (by omega) (by omega)
      have hVq : V = (q * pts).tdiv choices.length := by
        rw [hV]; unfold shareI
        rw [if_neg (by omega), Int.mul_comm]
      simp [-frame, h2, h1, h8, h9, h10, h5, hw1, hw2, hw3, hw4, hlt2, hq, hVq, hd0, List.length_pos_iff.1 hd]
theorem place_r (n : Nat) (zs : List Int) (v : Int) (hs : zs.length ≤ 9223372036854775807) (hn : zs.length ≤ n) :
    (ev Tryz.prog tab (n + 1)).callA 59 [.sl (zs.map intP), intP v] = some [intP (idxI v zs 0)] := by
  rw [callA_fn rfl Tryz.func59 rfl rfl rfl]
  have hq : ∀ z : Int, intP z = .val (.int .i64 z) := fun _ => rfl
  obtain ⟨V, hV⟩ : ∃ V, V = idxI v zs 0 := ⟨_, rfl⟩
  rw [← hV]
  simp [-frame, Tryz.f59, hq]
  refine loop_rule (fun d st => ∃ (i : Nat) (a : List (Nat × TV)), st = { tm := frameOf 19 a, sus := [], so := [] } ∧ look a 1 = .val (.int .i64 v) ∧ look a 7 = .sl (zs.map intP) ∧ look a 8 = .val (.int .i64 zs.length) ∧ look a 9 = .val (.int .i64 i) ∧ d = zs.length - i ∧ i ≤ zs.length ∧ V = idxI v (zs.drop i) i) ?_ _ zs.length _ (by omega) ⟨0, _, rfl, by simp, by simp, by simp, by simp, rfl, by omega, by simp [hV]⟩
  rintro d st m ⟨i, a, rfl, h1, h6, h7, h8, rfl, hi, hix⟩ ih
  by_cases hlt : i < zs.length
  · obtain ⟨z, hc⟩ : ∃ z, zs[i]? = some z := ⟨zs[i], by simp⟩
    have hw := wrap_succ hlt hs
    have hd : decide ((i : Int) < zs.length) = true := by simp [hlt]
    rw [drop_cons hc, idxI] at hix
    by_cases hb : v = z
    · rw [if_pos hb] at hix
      simp [-frame, -getElem?_pos, h1, h6, h7, h8, hd, hc, hlt, hw, hq, hb, hix]
    · rw [if_neg hb] at hix
      have hb' : ¬ z = v := fun e => hb e.symm
      simp [-frame, -getElem?_pos, h1, h6, h7, h8, hd, hc, hlt, hw, hq, hb']
      exact ih _ _ (by omega) ⟨i + 1, _, rfl, by simp [h1], by simp [h6], by simp [h7], by simp, rfl, by omega, by rw [hix]; rfl⟩
  · obtain rfl : i = zs.length := by omega
    rw [List.drop_length, idxI] at hix
    simp [-frame, h1, h6, h7, h8, hix]
end Go.Proofs.YtlhjljplfmmoaaaGreatDoor.Ev
namespace Go.Proofs.YtlhjljplfmmoaaaGreatDoor.Ev
open Go
set_option linter.unusedSimpArgs false
set_option linter.unusedVariables false
set_option maxRecDepth 10000
set_option maxHeartbeats 4000000
theorem order_r (n : Nat) (it : It) (zs : List Int) (hz : zs.length ≤ 1000000) (hzn : zs.length ≤ n) (hc : it.choices.length ≤ 1000000) (hcn : it.choices.length ≤ n) (hp0 : 0 ≤ it.pts) (hp : it.pts ≤ 5) (hd : 0 < ordA zs) :
    (ev Tryz.prog tab (n + 2)).callA 26 [it.pv, .sl (zs.map intP)] = some [intP (shareI it.pts (2 * (ordR (fun x => idxI x it.choices 0) zs : Int) - ordA zs) (ordA zs))] := by
  obtain ⟨id, ver, kind, stem, opts, choices, val, tol, texts, pts, cont, fam, set, words, secs, assets, rub⟩ := it
  simp only at hc hcn hp0 hp
  have hq : ∀ z : Int, intP z = .val (.int .i64 z) := fun _ => rfl
  obtain ⟨f, hf⟩ : ∃ f : Int → Int, f = fun x => idxI x choices 0 := ⟨_, rfl⟩
  have hle := ordR_le f zs
  have hle2 : ordA zs ≤ 1000000000000 := by
    rcases ordA_le zs with h | h
    · omega
    · omega
  rw [← hf]
  have wi : ∀ z, (ev Tryz.prog tab (n + 1)).callA 59 [.sl (choices.map intP), .val (.int .i64 z)] = some [.val (.int .i64 (f z))] := fun z => by
    have := place_r n choices z (by omega) (by omega)
    rw [hf]
    simpa only [hq] using this
  obtain ⟨V, hV⟩ : ∃ V, V = shareI pts (2 * (ordR f zs : Int) - ordA zs) (ordA zs) := ⟨_, rfl⟩
  rw [← hV]
  rw [callA_fn rfl Tryz.func26 rfl rfl rfl]
  simp [-frame, Tryz.f26, It.pv, hq]
  refine loop_rule (fun d st => ∃ (i r s : Nat) (a : List (Nat × TV)), st = { tm := frameOf 55 a, sus := [], so := [(2, .box [TV.val (.int .i64 id), TV.val (.int .i64 ver), .val (.int .i64 kind), .val (.string stem), .sl (opts.map strP), .sl (choices.map intP), .val (.int .i64 val), .val (.int .i64 tol), .sl (texts.map strP), .val (.int .i64 pts), .val (.string cont), .val (.int .i64 fam), .val (.int .i64 set), .val (.int .i64 words), .val (.int .i64 secs), .sl (assets.map intP), .val (.int .i64 rub)])] } ∧ look a 2 = .ptr 2 0 0 ∧ look a 1 = .sl (zs.map intP) ∧ look a 7 = .val (.int .i64 i) ∧ look a 5 = .val (.int .i64 r) ∧ look a 6 = .val (.int .i64 s) ∧ d = zs.length - i ∧ i ≤ zs.length ∧ r + ordR f (zs.drop i) = ordR f zs ∧ s + ordA (zs.drop i) = ordA zs) ?_ _ zs.length _ (by omega) ⟨0, 0, 0, _, rfl, by simp, by simp, by simp, by simp, by simp, rfl, by omega, by simp, by simp⟩
  rintro d st m ⟨i, r, s, a, rfl, h2, h1, h7, h5, h6, rfl, hi, hr, hs⟩ ih
  by_cases hlt : i < zs.length
  · obtain ⟨z, hz'⟩ : ∃ z, zs[i]? = some z := ⟨zs[i], by simp⟩
    have hw := wrap_succ hlt (show zs.length ≤ 9223372036854775807 by omega)
    have hd : decide ((i : Int) < zs.length) = true := by simp [hlt]
    rw [drop_cons hz', ordR] at hr
    rw [drop_cons hz', ordA] at hs
    simp [-frame, -getElem?_pos, h2, h1, h7, h5, h6, hd, hz', hlt, hw, hq]
    refine loop_rule (fun d st => ∃ (j r2 s2 : Nat) (a : List (Nat × TV)), st = { tm := frameOf 55 a, sus := [], so := [(2, .box [TV.val (.int .i64 id), TV.val (.int .i64 ver), .val (.int .i64 kind), .val (.string stem), .sl (opts.map strP), .sl (choices.map intP), .val (.int .i64 val), .val (.int .i64 tol), .sl (texts.map strP), .val (.int .i64 pts), .val (.string cont), .val (.int .i64 fam), .val (.int .i64 set), .val (.int .i64 words), .val (.int .i64 secs), .sl (assets.map intP), .val (.int .i64 rub)])] } ∧ look a 2 = .ptr 2 0 0 ∧ look a 1 = .sl (zs.map intP) ∧ look a 7 = .val (.int .i64 i) ∧ look a 8 = .val (.int .i64 j) ∧ look a 5 = .val (.int .i64 r2) ∧ look a 6 = .val (.int .i64 s2) ∧ d = zs.length - j ∧ i < j ∧ j ≤ zs.length ∧ r2 + cntB (fun b => decide (f z < f b)) (zs.drop j) = r + cntB (fun b => decide (f z < f b)) (zs.drop (i + 1)) ∧ s2 + (zs.drop j).length = s + (zs.drop (i + 1)).length) ?_ _ (zs.length - (i + 1)) _ (by omega) ⟨i + 1, r, s, _, rfl, by simp [h2], by simp [h1], by simp [h7], by simp, by simp [h5], by simp [h6], rfl, by omega, by omega, rfl, rfl⟩
    clear h2 h1 h7 h5 h6
    rintro d st k ⟨j, r2, s2, a, rfl, h2, h1, h7, h8, h5, h6, rfl, hij, hj, hr2, hs2⟩ ih2
    by_cases hlt2 : j < zs.length
    · obtain ⟨y, hy⟩ : ∃ y, zs[j]? = some y := ⟨zs[j], by simp⟩
      have hw2 := wrap_succ hlt2 (show zs.length ≤ 9223372036854775807 by omega)
      have hd2 : decide ((j : Int) < zs.length) = true := by simp [hlt2]
      rw [drop_cons hy, cntB] at hr2
      rw [drop_cons hy, List.length_cons] at hs2
      have hdl : (zs.drop (i + 1)).length ≤ 1000000 := by rw [List.length_drop]; omega
      have hws : IntKind.i64.wrap ((s2 : Int) + 1) = (s2 : Int) + 1 := wrap_i64 (by omega) (by omega)
      have hwr : IntKind.i64.wrap ((r2 : Int) + 1) = (r2 : Int) + 1 := wrap_i64 (by omega) (by
        have := cntB_le (fun b => decide (f z < f b)) (zs.drop (i + 1))
        omega)
      simp only [List.length_drop] at hs2
      by_cases hb : f z < f y
      · rw [if_pos (by simpa using hb)] at hr2
        simp [-frame, -getElem?_pos, h2, h1, h7, h8, h5, h6, hd2, hlt2, hws, hq]
        refine (drawK_of (by kernel_rfl)).trans ?_
        simp [-frame, -getElem?_pos, evOpD, callD, argRows, h2, h1, h7, h8, h5, h6, hz', hy, hlt, hlt2, hw2, hws, hwr, hq, wi, hb]
        exact ih2 _ _ (by omega) ⟨j + 1, r2 + 1, s2 + 1, _, rfl, by simp [h2], by simp [h1], by simp [h7], by simp, by simp, by simp, rfl, by omega, by omega, by omega, by simp only [List.length_drop]; omega⟩
      · rw [if_neg (by simpa using hb)] at hr2
        simp [-frame, -getElem?_pos, h2, h1, h7, h8, h5, h6, hd2, hlt2, hws, hq]
        refine (drawK_of (by kernel_rfl)).trans ?_
        simp [-frame, -getElem?_pos, evOpD, callD, argRows, h2, h1, h7, h8, h5, h6, hz', hy, hlt, hlt2, hw2, hws, hwr, hq, wi, hb]
        exact ih2 _ _ (by omega) ⟨j + 1, r2, s2 + 1, _, rfl, by simp [h2], by simp [h1], by simp [h7], by simp, by simp [h5], by simp, rfl, by omega, by omega, by omega, by simp only [List.length_drop]; omega⟩
    · obtain rfl : j = zs.length := by omega
      rw [List.drop_length, cntB] at hr2
      rw [List.drop_length, List.length_nil] at hs2
      simp [-frame, h2, h1, h7, h8, h5, h6, hw]
      exact ih _ _ (by omega) ⟨i + 1, r2, s2, _, rfl, by simp [h2], by simp [h1], by simp, by simp [h5], by simp [h6], rfl, by omega, by omega, by omega⟩
  · obtain rfl : i = zs.length := by omega
    rw [List.drop_length] at hr hs
    have hr' : r = ordR f zs := by simpa [ordR] using hr
    have hs' : s = ordA zs := by simpa [ordA] using hs
    subst hr' hs'
    obtain ⟨r, hrr⟩ : ∃ r, r = ordR f zs := ⟨_, rfl⟩
    obtain ⟨s, hss⟩ : ∃ s, s = ordA zs := ⟨_, rfl⟩
    rw [← hrr] at h5 hV hle
    rw [← hss] at h6 hV hle hle2 hd
    have hw1 : IntKind.i64.wrap (2 * (r : Int)) = 2 * (r : Int) := wrap_i64 (by omega) (by omega)
    have hd0 : ¬ (s : Int) = 0 := by omega
    have hd00 : ¬ s = 0 := by omega
    by_cases hlt2 : 2 * (r : Int) < s
    · have hV0 : V = 0 := by
        rw [hV]; unfold shareI
        rw [if_pos (by omega)]; simp
      simp [-frame, h2, h1, h7, h5, h6, hw1, hlt2, hq, hV0]
    · obtain ⟨q, hqq⟩ : ∃ q : Int, q = 2 * (r : Int) - s := ⟨_, rfl⟩
      have hw2 : IntKind.i64.wrap (2 * (r : Int) - s) = q := by rw [hqq]; exact wrap_i64 (by omega) (by omega)
      rw [← hqq] at hV
      have hq0 : 0 ≤ q := by omega
      have hq1 : q ≤ 1000000000000 := by omega
      have hb : 0 ≤ pts * q := Int.mul_nonneg hp0 hq0
      have hb2 : pts * q ≤ 5 * 1000000000000 := Int.mul_le_mul hp hq1 hq0 (by omega)
      have hw3 : IntKind.i64.wrap (pts * q) = pts * q := wrap_i64 (by omega) (by omega)
      have hb3 : 0 ≤ (pts * q).tdiv s := Int.tdiv_nonneg hb (by omega)
      have hb4 : (pts * q).tdiv s ≤ pts * q := Int.tdiv_le_self _ hb
      have hw4 : IntKind.i64.wrap ((pts * q).tdiv s) = (pts * q).tdiv s := wrap_i64 (by omega) (by omega)
      have hVq : V = (pts * q).tdiv s := by
        rw [hV]; unfold shareI
        rw [if_neg (by omega)]
      simp [-frame, h2, h1, h7, h5, h6, hw1, hw2, hw3, hw4, hlt2, hq, hVq, hd0, hd00]
end Go.Proofs.YtlhjljplfmmoaaaGreatDoor.Ev
namespace Go.Proofs.YtlhjljplfmmoaaaGreatDoor.Ev
open Go
set_option linter.unusedSimpArgs false
set_option linter.unusedVariables false
set_option maxRecDepth 10000
set_option maxHeartbeats 4000000
def low (c : UInt8) : UInt8 := if Kn.upper c = true then c + 32 else c
def stepR (p : List UInt8 × Bool) (c : UInt8) : List UInt8 × Bool :=
  if low c = 32 then (p.1, true) else if Kn.alnum (low c) = true then ((if p.2 = true ∧ p.1 ≠ [] then p.1 ++ [32] else p.1) ++ [low c], false) else p
def fullR (p : List UInt8 × Bool) : List UInt8 := if p.2 = true ∧ p.1 ≠ [] then p.1 ++ [32] else p.1
theorem low_space {c : UInt8} : low c = 32 ↔ c = 32 := by
  unfold low
  split
  · rename_i h
    constructor
    · intro h2
      have := Kn.alnum_ne (Kn.upper_alnum h)
      exact absurd h2 this
    · rintro rfl
      simp [Kn.upper] at h
  · exact Iff.rfl
theorem last_snoc (b : List UInt8) (c : UInt8) : Kn.last32 (b ++ [c]) = (c == 32) := by
  unfold Kn.last32; simp
theorem step_full (p : List UInt8 × Bool) (c : UInt8) (h : Kn.last32 p.1 = false) : Kn.nstep (fullR p) c = fullR (stepR p c) ∧ Kn.last32 (stepR p c).1 = false := by
  obtain ⟨o, b⟩ := p
  simp only at h
  unfold Kn.nstep stepR
  by_cases hs : low c = 32
  · have hc := low_space.1 hs
    subst hc
    rw [if_pos hs]
    have hu : Kn.upper 32 = false := rfl
    have ha : Kn.alnum 32 = false := rfl
    rw [hu, ha]
    simp only [fullR]
    by_cases ho : o = []
    · subst ho; cases b <;> exact ⟨rfl, h⟩
    · cases b
      · simp [ho, h]
      · simp [ho, h, last_snoc]
  · rw [if_neg hs]
    by_cases ha : Kn.alnum (low c) = true
    · rw [if_pos ha]
      have hl : Kn.last32 ((if b = true ∧ o ≠ [] then o ++ [32] else o) ++ [low c]) = false := by
        rw [last_snoc]; simpa using hs
      refine ⟨?_, hl⟩
      by_cases hu : Kn.upper c = true
      · rw [if_pos hu]
        have : low c = c + 32 := by unfold low; rw [if_pos hu]
        rw [this]
        unfold fullR
        simp
      · rw [if_neg hu]
        have : low c = c := by unfold low; rw [if_neg hu]
        rw [this] at ha ⊢
        rw [if_pos ha]
        unfold fullR
        simp
    · rw [if_neg ha]
      have hu : ¬ Kn.upper c = true := fun hu => ha (by unfold low; rw [if_pos hu]; exact Kn.upper_alnum hu)
      have hlc : low c = c := by unfold low; rw [if_neg hu]
      rw [hlc] at ha hs
      rw [if_neg hu, if_neg ha]
      refine ⟨?_, h⟩
      simp [hs]
theorem fold_full : ∀ (l : List UInt8) (p : List UInt8 × Bool), Kn.last32 p.1 = false → l.foldl Kn.nstep (fullR p) = fullR (l.foldl stepR p) ∧ Kn.last32 (l.foldl stepR p).1 = false
  | [], p, h => ⟨rfl, h⟩
  | c :: t, p, h => by
    have := step_full p c h
    simp only [List.foldl_cons]
    rw [this.1]
    exact fold_full t _ this.2
theorem normal_R (l : List UInt8) : (l.foldl stepR ([], false)).1 = Kn.normal l := by
  have h := fold_full l ([], false) rfl
  have e : fullR (([] : List UInt8), false) = [] := rfl
  rw [e] at h
  unfold Kn.normal
  rw [h.1]
  unfold fullR Kn.trim
  split
  · rw [last_snoc]; simp
  · rw [h.2]; rfl
theorem stepR_len (p : List UInt8 × Bool) (c : UInt8) : (stepR p c).1.length ≤ p.1.length + 2 := by
  unfold stepR
  split
  · simp
  · split
    · simp only [List.length_append, List.length_cons, List.length_nil]
      split
      · simp
      · omega
    · omega
end Go.Proofs.YtlhjljplfmmoaaaGreatDoor.Ev
namespace Go.Proofs.YtlhjljplfmmoaaaGreatDoor.Ev
open Go
set_option linter.unusedSimpArgs false
set_option linter.unusedVariables false
set_option maxRecDepth 10000
set_option maxHeartbeats 4000000
theorem low_A {c : UInt8} (h : 65 ≤ (c.toNat : Int) ∧ (c.toNat : Int) ≤ 90) : low c = c + 32 ∧ ((c + 32).toNat : Int) = c.toNat + 32 := by
  have hu : Kn.upper c = true := by simp [Kn.upper]; omega
  exact ⟨by unfold low; rw [if_pos hu], by have := Kn.upper_add hu; omega⟩
theorem low_B {c : UInt8} (h : (c.toNat : Int) < 65 ∨ 90 < (c.toNat : Int)) : low c = c := by
  unfold low
  rw [if_neg (by simp [Kn.upper]; omega)]
theorem app_l (o : List UInt8) (c : UInt8) : (⟨o.toArray⟩ : ByteArray) ++ (⟨#[c]⟩ : ByteArray) = ⟨(o ++ [c]).toArray⟩ := by
  apply ba_eq
  simp
theorem strOf1 (c : UInt8) : strOf [PV.val (.int .u8 c.toNat)] = some [c] := by
  simp [strOf]
theorem emp_l (o : List UInt8) : ((⟨o.toArray⟩ : ByteArray).toList == []) = decide (o = []) := by
  rw [Lib.toList_data]
  cases o <;> simp
theorem sz_l (o : List UInt8) : (⟨o.toArray⟩ : ByteArray).size = o.length := by
  simp [ByteArray.size]
theorem normal_r (n : Nat) (s : ByteArray) (l : List UInt8) (hl : s.data.toList = l) (hs : s.size ≤ 140737488355328) (hn : s.size ≤ n) :
    (ev Tryz.prog tab (n + 1)).callA 27 [strP s] = some [strP ⟨(Kn.normal l).toArray⟩] := by
  have hsz := size_l hl
  rw [callA_fn rfl Tryz.func27 rfl rfl rfl, ← normal_R l]
  obtain ⟨V, hV⟩ : ∃ V, V = l.foldl stepR ([], false) := ⟨_, rfl⟩
  rw [← hV]
  simp [-frame, Tryz.f27, strP]
  refine loop_rule (fun d st => ∃ (i : Nat) (o : List UInt8) (b : Bool) (so : Store) (a : List (Nat × TV)), st = { tm := frameOf 53 a, sus := [], so := so } ∧ (so = [] ∨ ∃ y, so = [(49, .row 5 [.val (.int .u8 y)])]) ∧ look a 0 = .val (.string s) ∧ look a 5 = .val (.int .i64 i) ∧ look a 3 = .val (.string ⟨o.toArray⟩) ∧ look a 4 = .val (.bool b) ∧ d = s.size - i ∧ i ≤ s.size ∧ o.length ≤ 2 * i ∧ (l.drop i).foldl stepR (o, b) = V) ?_ _ s.size _ (by omega) ⟨0, [], false, _, _, rfl, .inl rfl, by simp, by simp, by simp, by simp, rfl, by omega, by simp, by rw [hV]; rfl⟩
  rintro d st m ⟨i, o, b, so, a, rfl, hso, h0, h5, h3, h4, rfl, hi, ho, hf⟩ ih
  by_cases hlt : i < s.size
  · obtain ⟨c, hc⟩ : ∃ c, l[i]? = some c := ⟨l[i], by simp⟩
    have hc' : s[i]? = some c := by rw [get_l hl, hc]
    have hw := wrap_succ hlt (show s.size ≤ 9223372036854775807 by omega)
    have hd : decide ((i : Int) < s.size) = true := by simp [hlt]
    rw [drop_cons hc, List.foldl_cons] at hf
    have hlen := stepR_len (o, b) c
    simp only at hlen
    have z1 : o.length + 1 ≤ 9223372036854775807 := by omega
    have z2 : o.length + 1 + 1 ≤ 9223372036854775807 := by omega
    have hem := emp_l o
    have e0 : (⟨#[32]⟩ : ByteArray).size = 1 := rfl
    have e1 : ∀ x : UInt8, (⟨#[x]⟩ : ByteArray).size = 1 := fun _ => rfl
    have hreg : ((c.toNat : Int) < 48 ∧ (c.toNat : Int) ≠ 32) ∨ (c.toNat : Int) = 32 ∨ (48 ≤ (c.toNat : Int) ∧ (c.toNat : Int) ≤ 57) ∨ (57 < (c.toNat : Int) ∧ (c.toNat : Int) < 65) ∨ (65 ≤ (c.toNat : Int) ∧ (c.toNat : Int) ≤ 90) ∨ (90 < (c.toNat : Int) ∧ (c.toNat : Int) < 97) ∨ (97 ≤ (c.toNat : Int) ∧ (c.toNat : Int) ≤ 122) ∨ 122 < (c.toNat : Int) := by omega
    rcases hreg with h | h | h | h | h | h | h | h
    · have hlow := low_B (c := c) (by omega)
      have q0 : ¬ (65 : Int) ≤ c.toNat := by omega
      have q1 : ¬ (c.toNat : Int) = 32 := by omega
      have q2 : ¬ (97 : Int) ≤ c.toNat := by omega
      have q3 : ¬ (48 : Int) ≤ c.toNat := by omega
      have ha : Kn.alnum c = false := by simp [Kn.alnum]; omega
      have hc32 : c ≠ 32 := by rintro rfl; exact absurd (show ((32 : UInt8).toNat : Int) = 32 from rfl) (by omega)
      have hst : stepR (o, b) c = (o, b) := by unfold stepR; rw [hlow, if_neg hc32, ha]; rfl
      rw [hst] at hf
      simp [-frame, -getElem?_pos, h0, h5, h3, h4, hd, hc', hlt, hw, q0, q1, q2, q3]
      exact ih _ _ (by omega) ⟨i + 1, o, b, _, _, rfl, hso, by simp [h0], by simp, by simp [h3], by simp [h4], rfl, by omega, by omega, hf⟩
    · have hc32 := byte_32 h
      have hst : stepR (o, b) c = (o, true) := by unfold stepR; rw [if_pos (low_space.2 hc32)]
      rw [hst] at hf
      simp [-frame, -getElem?_pos, h0, h5, h3, h4, hd, hc', hlt, hw, h]
      exact ih _ _ (by omega) ⟨i + 1, o, true, _, _, rfl, hso, by simp [h0], by simp, by simp [h3], by simp, rfl, by omega, by omega, hf⟩
    · have hlow := low_B (c := c) (by omega)
      have q0 : ¬ (65 : Int) ≤ c.toNat := by omega
      have q1 : ¬ (c.toNat : Int) = 32 := by omega
      have q2 : ¬ (97 : Int) ≤ c.toNat := by omega
      have q3 : (48 : Int) ≤ c.toNat := by omega
      have q4 : (c.toNat : Int) ≤ 57 := by omega
      have ha : Kn.alnum c = true := by simp only [Kn.alnum, Bool.or_eq_true, Bool.and_eq_true, decide_eq_true_eq]; omega
      have hst := strOf1 c
      have hc32 : low c ≠ 32 := by rw [hlow]; exact Kn.alnum_ne ha
      unfold stepR at hf hlen
      rw [if_neg hc32, hlow, if_pos ha] at hf hlen
      cases b
      · simp only [Bool.false_eq_true, false_and, if_false] at hf hlen
        rcases hso with rfl | ⟨y, rfl⟩
        · simp [-frame, -getElem?_pos, h0, h5, h3, h4, hd, hc', hlt, hw, q0, q1, q2, q3, q4, hst, hem, app_l, sz_l, e0, e1, z1, z2]
          exact ih _ _ (by omega) ⟨i + 1, _, false, _, _, rfl, .inr ⟨_, rfl⟩, by simp [h0], by simp, by simp, by simp, rfl, by omega, by omega, hf⟩
        · simp [-frame, -getElem?_pos, h0, h5, h3, h4, hd, hc', hlt, hw, q0, q1, q2, q3, q4, hst, hem, app_l, sz_l, e0, e1, z1, z2]
          exact ih _ _ (by omega) ⟨i + 1, _, false, _, _, rfl, .inr ⟨_, rfl⟩, by simp [h0, map3, kill1], by simp, by simp, by simp, rfl, by omega, by omega, hf⟩
      · by_cases hoe : o = []
        · subst hoe
          simp only [ne_eq, not_true_eq_false, and_false, if_false] at hf hlen
          rcases hso with rfl | ⟨y, rfl⟩
          · simp [-frame, -getElem?_pos, h0, h5, h3, h4, hd, hc', hlt, hw, q0, q1, q2, q3, q4, hst, hem, app_l, sz_l, e0, e1, z1, z2]
            exact ih _ _ (by omega) ⟨i + 1, _, false, _, _, rfl, .inr ⟨_, rfl⟩, by simp [h0], by simp, by simp, by simp, rfl, by omega, by omega, hf⟩
          · simp [-frame, -getElem?_pos, h0, h5, h3, h4, hd, hc', hlt, hw, q0, q1, q2, q3, q4, hst, hem, app_l, sz_l, e0, e1, z1, z2]
            exact ih _ _ (by omega) ⟨i + 1, _, false, _, _, rfl, .inr ⟨_, rfl⟩, by simp [h0, map3, kill1], by simp, by simp, by simp, rfl, by omega, by omega, hf⟩
        · simp only [ne_eq, hoe, not_false_eq_true, and_self, if_true] at hf hlen
          rcases hso with rfl | ⟨y, rfl⟩
          · simp [-frame, -getElem?_pos, h0, h5, h3, h4, hd, hc', hlt, hw, q0, q1, q2, q3, q4, hst, hem, app_l, sz_l, e0, e1, z1, z2, hoe, show o.isEmpty = false by simpa using hoe]
            exact ih _ _ (by omega) ⟨i + 1, o ++ [32] ++ [c], false, _, _, rfl, .inr ⟨_, rfl⟩, by simp [h0], by simp, by simp, by simp, rfl, by omega, by omega, hf⟩
          · simp [-frame, -getElem?_pos, h0, h5, h3, h4, hd, hc', hlt, hw, q0, q1, q2, q3, q4, hst, hem, app_l, sz_l, e0, e1, z1, z2, hoe, show o.isEmpty = false by simpa using hoe]
            exact ih _ _ (by omega) ⟨i + 1, o ++ [32] ++ [c], false, _, _, rfl, .inr ⟨_, rfl⟩, by simp [h0, map3, kill1], by simp, by simp, by simp, rfl, by omega, by omega, hf⟩
    · have hlow := low_B (c := c) (by omega)
      have q0 : ¬ (65 : Int) ≤ c.toNat := by omega
      have q1 : ¬ (c.toNat : Int) = 32 := by omega
      have q2 : ¬ (97 : Int) ≤ c.toNat := by omega
      have q3 : (48 : Int) ≤ c.toNat := by omega
      have q4 : ¬ (c.toNat : Int) ≤ 57 := by omega
      have ha : Kn.alnum c = false := by simp [Kn.alnum]; omega
      have hc32 : c ≠ 32 := by rintro rfl; exact absurd (show ((32 : UInt8).toNat : Int) = 32 from rfl) (by omega)
      have hst : stepR (o, b) c = (o, b) := by unfold stepR; rw [hlow, if_neg hc32, ha]; rfl
      rw [hst] at hf
      simp [-frame, -getElem?_pos, h0, h5, h3, h4, hd, hc', hlt, hw, q0, q1, q2, q3, q4]
      exact ih _ _ (by omega) ⟨i + 1, o, b, _, _, rfl, hso, by simp [h0], by simp, by simp [h3], by simp [h4], rfl, by omega, by omega, hf⟩
    · obtain ⟨hlow, hx⟩ := low_A (c := c) h
      have hwu : IntKind.u8.wrap ((c.toNat : Int) + 32) = ((c + 32).toNat : Int) := by rw [hx]; exact wrap_u8 (by omega) (by omega)
      have q0 : (65 : Int) ≤ c.toNat := by omega
      have q1 : (c.toNat : Int) ≤ 90 := by omega
      have q2 : ¬ ((c + 32).toNat : Int) = 32 := by omega
      have q3 : (97 : Int) ≤ (c + 32).toNat := by omega
      have q4 : ((c + 32).toNat : Int) ≤ 122 := by omega
      have ha : Kn.alnum (c + 32) = true := by simp only [Kn.alnum, Bool.or_eq_true, Bool.and_eq_true, decide_eq_true_eq]; omega
      have hst := strOf1 (c + 32)
      have hc32 : low c ≠ 32 := by rw [hlow]; exact Kn.alnum_ne ha
      unfold stepR at hf hlen
      rw [if_neg hc32, hlow, if_pos ha] at hf hlen
      generalize c + 32 = c2 at *
      cases b
      · simp only [Bool.false_eq_true, false_and, if_false] at hf hlen
        rcases hso with rfl | ⟨y, rfl⟩
        · simp [-frame, -getElem?_pos, h0, h5, h3, h4, hd, hc', hlt, hw, q0, q1, q2, q3, q4, hwu, hst, hem, app_l, sz_l, e0, e1, z1, z2]
          exact ih _ _ (by omega) ⟨i + 1, _, false, _, _, rfl, .inr ⟨_, rfl⟩, by simp [h0], by simp, by simp, by simp, rfl, by omega, by omega, hf⟩
        · simp [-frame, -getElem?_pos, h0, h5, h3, h4, hd, hc', hlt, hw, q0, q1, q2, q3, q4, hwu, hst, hem, app_l, sz_l, e0, e1, z1, z2]
          exact ih _ _ (by omega) ⟨i + 1, _, false, _, _, rfl, .inr ⟨_, rfl⟩, by simp [h0, map3, kill1], by simp, by simp, by simp, rfl, by omega, by omega, hf⟩
      · by_cases hoe : o = []
        · subst hoe
          simp only [ne_eq, not_true_eq_false, and_false, if_false] at hf hlen
          rcases hso with rfl | ⟨y, rfl⟩
          · simp [-frame, -getElem?_pos, h0, h5, h3, h4, hd, hc', hlt, hw, q0, q1, q2, q3, q4, hwu, hst, hem, app_l, sz_l, e0, e1, z1, z2]
            exact ih _ _ (by omega) ⟨i + 1, _, false, _, _, rfl, .inr ⟨_, rfl⟩, by simp [h0], by simp, by simp, by simp, rfl, by omega, by omega, hf⟩
          · simp [-frame, -getElem?_pos, h0, h5, h3, h4, hd, hc', hlt, hw, q0, q1, q2, q3, q4, hwu, hst, hem, app_l, sz_l, e0, e1, z1, z2]
            exact ih _ _ (by omega) ⟨i + 1, _, false, _, _, rfl, .inr ⟨_, rfl⟩, by simp [h0, map3, kill1], by simp, by simp, by simp, rfl, by omega, by omega, hf⟩
        · simp only [ne_eq, hoe, not_false_eq_true, and_self, if_true] at hf hlen
          rcases hso with rfl | ⟨y, rfl⟩
          · simp [-frame, -getElem?_pos, h0, h5, h3, h4, hd, hc', hlt, hw, q0, q1, q2, q3, q4, hwu, hst, hem, app_l, sz_l, e0, e1, z1, z2, hoe, show o.isEmpty = false by simpa using hoe]
            exact ih _ _ (by omega) ⟨i + 1, o ++ [32] ++ [c2], false, _, _, rfl, .inr ⟨_, rfl⟩, by simp [h0], by simp, by simp, by simp, rfl, by omega, by omega, hf⟩
          · simp [-frame, -getElem?_pos, h0, h5, h3, h4, hd, hc', hlt, hw, q0, q1, q2, q3, q4, hwu, hst, hem, app_l, sz_l, e0, e1, z1, z2, hoe, show o.isEmpty = false by simpa using hoe]
            exact ih _ _ (by omega) ⟨i + 1, o ++ [32] ++ [c2], false, _, _, rfl, .inr ⟨_, rfl⟩, by simp [h0, map3, kill1], by simp, by simp, by simp, rfl, by omega, by omega, hf⟩
    · have hlow := low_B (c := c) (by omega)
      have q0 : (65 : Int) ≤ c.toNat := by omega
      have q1 : ¬ (c.toNat : Int) ≤ 90 := by omega
      have q2 : ¬ (c.toNat : Int) = 32 := by omega
      have q3 : ¬ (97 : Int) ≤ c.toNat := by omega
      have q4 : (48 : Int) ≤ c.toNat := by omega
      have q5 : ¬ (c.toNat : Int) ≤ 57 := by omega
      have ha : Kn.alnum c = false := by simp [Kn.alnum]; omega
      have hc32 : c ≠ 32 := by rintro rfl; exact absurd (show ((32 : UInt8).toNat : Int) = 32 from rfl) (by omega)
      have hst : stepR (o, b) c = (o, b) := by unfold stepR; rw [hlow, if_neg hc32, ha]; rfl
      rw [hst] at hf
      simp [-frame, -getElem?_pos, h0, h5, h3, h4, hd, hc', hlt, hw, q0, q1, q2, q3, q4, q5]
      exact ih _ _ (by omega) ⟨i + 1, o, b, _, _, rfl, hso, by simp [h0], by simp, by simp [h3], by simp [h4], rfl, by omega, by omega, hf⟩
    · have hlow := low_B (c := c) (by omega)
      have q0 : (65 : Int) ≤ c.toNat := by omega
      have q1 : ¬ (c.toNat : Int) ≤ 90 := by omega
      have q2 : ¬ (c.toNat : Int) = 32 := by omega
      have q3 : (97 : Int) ≤ c.toNat := by omega
      have q4 : (c.toNat : Int) ≤ 122 := by omega
      have ha : Kn.alnum c = true := by simp only [Kn.alnum, Bool.or_eq_true, Bool.and_eq_true, decide_eq_true_eq]; omega
      have hst := strOf1 c
      have hc32 : low c ≠ 32 := by rw [hlow]; exact Kn.alnum_ne ha
      unfold stepR at hf hlen
      rw [if_neg hc32, hlow, if_pos ha] at hf hlen
      cases b
      · simp only [Bool.false_eq_true, false_and, if_false] at hf hlen
        rcases hso with rfl | ⟨y, rfl⟩
        · simp [-frame, -getElem?_pos, h0, h5, h3, h4, hd, hc', hlt, hw, q0, q1, q2, q3, q4, hst, hem, app_l, sz_l, e0, e1, z1, z2]
          exact ih _ _ (by omega) ⟨i + 1, _, false, _, _, rfl, .inr ⟨_, rfl⟩, by simp [h0], by simp, by simp, by simp, rfl, by omega, by omega, hf⟩
        · simp [-frame, -getElem?_pos, h0, h5, h3, h4, hd, hc', hlt, hw, q0, q1, q2, q3, q4, hst, hem, app_l, sz_l, e0, e1, z1, z2]
          exact ih _ _ (by omega) ⟨i + 1, _, false, _, _, rfl, .inr ⟨_, rfl⟩, by simp [h0, map3, kill1], by simp, by simp, by simp, rfl, by omega, by omega, hf⟩
      · by_cases hoe : o = []
        · subst hoe
          simp only [ne_eq, not_true_eq_false, and_false, if_false] at hf hlen
          rcases hso with rfl | ⟨y, rfl⟩
          · simp [-frame, -getElem?_pos, h0, h5, h3, h4, hd, hc', hlt, hw, q0, q1, q2, q3, q4, hst, hem, app_l, sz_l, e0, e1, z1, z2]
            exact ih _ _ (by omega) ⟨i + 1, _, false, _, _, rfl, .inr ⟨_, rfl⟩, by simp [h0], by simp, by simp, by simp, rfl, by omega, by omega, hf⟩
          · simp [-frame, -getElem?_pos, h0, h5, h3, h4, hd, hc', hlt, hw, q0, q1, q2, q3, q4, hst, hem, app_l, sz_l, e0, e1, z1, z2]
            exact ih _ _ (by omega) ⟨i + 1, _, false, _, _, rfl, .inr ⟨_, rfl⟩, by simp [h0, map3, kill1], by simp, by simp, by simp, rfl, by omega, by omega, hf⟩
        · simp only [ne_eq, hoe, not_false_eq_true, and_self, if_true] at hf hlen
          rcases hso with rfl | ⟨y, rfl⟩
          · simp [-frame, -getElem?_pos, h0, h5, h3, h4, hd, hc', hlt, hw, q0, q1, q2, q3, q4, hst, hem, app_l, sz_l, e0, e1, z1, z2, hoe, show o.isEmpty = false by simpa using hoe]
            exact ih _ _ (by omega) ⟨i + 1, o ++ [32] ++ [c], false, _, _, rfl, .inr ⟨_, rfl⟩, by simp [h0], by simp, by simp, by simp, rfl, by omega, by omega, hf⟩
          · simp [-frame, -getElem?_pos, h0, h5, h3, h4, hd, hc', hlt, hw, q0, q1, q2, q3, q4, hst, hem, app_l, sz_l, e0, e1, z1, z2, hoe, show o.isEmpty = false by simpa using hoe]
            exact ih _ _ (by omega) ⟨i + 1, o ++ [32] ++ [c], false, _, _, rfl, .inr ⟨_, rfl⟩, by simp [h0, map3, kill1], by simp, by simp, by simp, rfl, by omega, by omega, hf⟩
    · have hlow := low_B (c := c) (by omega)
      have q0 : (65 : Int) ≤ c.toNat := by omega
      have q1 : ¬ (c.toNat : Int) ≤ 90 := by omega
      have q2 : ¬ (c.toNat : Int) = 32 := by omega
      have q3 : (97 : Int) ≤ c.toNat := by omega
      have q4 : ¬ (c.toNat : Int) ≤ 122 := by omega
      have q5 : (48 : Int) ≤ c.toNat := by omega
      have q6 : ¬ (c.toNat : Int) ≤ 57 := by omega
      have ha : Kn.alnum c = false := by simp [Kn.alnum]; omega
      have hc32 : c ≠ 32 := by rintro rfl; exact absurd (show ((32 : UInt8).toNat : Int) = 32 from rfl) (by omega)
      have hst : stepR (o, b) c = (o, b) := by unfold stepR; rw [hlow, if_neg hc32, ha]; rfl
      rw [hst] at hf
      simp [-frame, -getElem?_pos, h0, h5, h3, h4, hd, hc', hlt, hw, q0, q1, q2, q3, q4, q5, q6]
      exact ih _ _ (by omega) ⟨i + 1, o, b, _, _, rfl, hso, by simp [h0], by simp, by simp [h3], by simp [h4], rfl, by omega, by omega, hf⟩
  · obtain rfl : i = s.size := by omega
    rw [hsz, List.drop_length, List.foldl_nil] at hf
    rw [← hf]
    simp [-frame, h0, h5, h3, h4]
end Go.Proofs.YtlhjljplfmmoaaaGreatDoor.Ev
