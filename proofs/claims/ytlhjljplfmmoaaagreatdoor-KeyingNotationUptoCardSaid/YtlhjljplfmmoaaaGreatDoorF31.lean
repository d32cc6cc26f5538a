/- keying.several and keying.order: what they compute. -/
import Derived.Test.YtlhjljplfmmoaaaGreatDoorF30
import Derived.Test.YtlhjljplfmmoaaaGreatDoorFB
namespace Go.Proofs.YtlhjljplfmmoaaaGreatDoor.Ev
open Go
set_option linter.unusedSimpArgs false
set_option linter.unusedVariables false
set_option maxRecDepth 10000
set_option maxHeartbeats 4000000
def memB (cs : List Int) (c : Int) : Bool := cs.any (fun x => decide (c = x))
def cntB (p : Int → Bool) : List Int → Nat
  | [] => 0
  | x :: t => (if p x = true then 1 else 0) + cntB p t
theorem cntB_le (p : Int → Bool) : ∀ l : List Int, cntB p l ≤ l.length
  | [] => Nat.le_refl _
  | x :: t => by
    have := cntB_le p t
    unfold cntB
    rw [List.length_cons]
    split <;> omega
theorem sized_int (zs : List Int) : sizedAll 1 (zs.map intP) = true := by
  induction zs with
  | nil => rfl
  | cons z t ih => simp only [List.map_cons, sizedAll, ih]; rfl
theorem several_ev (n : Nat) (it : It) (zs : List Int) (hz : zs.length ≤ 1000000) (hzn : zs.length ≤ n) (hc : it.choices.length ≤ 1000000) (hcn : it.choices.length ≤ n) (hp0 : 0 ≤ it.pts) (hp : it.pts ≤ 5) (hd : 0 < it.choices.length) :
    (ev Tryz.prog tab (n + 3)).callA 21 [it.pv, .sl (zs.map intP)] = some [intP (shareI it.pts (2 * (cntB (memB it.choices) zs : Int) - zs.length) it.choices.length)] := by
  obtain ⟨id, ver, kind, stem, opts, choices, val, tol, texts, pts, cont, fam, set, words, secs, assets, rub⟩ := it
  simp only at hc hcn hp0 hp hd
  have hq : ∀ z : Int, intP z = .val (.int .i64 z) := fun _ => rfl
  have hle := cntB_le (memB choices) zs
  have wsh := share_ev (n + 1) pts (2 * (cntB (memB choices) zs : Int) - zs.length) choices.length hp0 hp (by omega) (by omega) (by omega) (by omega)
  simp only [hq] at wsh
  rw [callA_fn rfl Tryz.func21 rfl rfl rfl]
  simp [-frame, Tryz.f21, It.pv, hq]
  refine loop_rule (fun d st => ∃ (i r : Nat) (a : List (Nat × TV)), st = { tm := frameOf 32 a, sus := [], so := [(2, .box [TV.val (.int .i64 id), TV.val (.int .i64 ver), .val (.int .i64 kind), .val (.string stem), .sl (opts.map strP), .sl (choices.map intP), .val (.int .i64 val), .val (.int .i64 tol), .sl (texts.map strP), .val (.int .i64 pts), .val (.string cont), .val (.int .i64 fam), .val (.int .i64 set), .val (.int .i64 words), .val (.int .i64 secs), .sl (assets.map intP), .val (.int .i64 rub)])] } ∧ look a 2 = .ptr 2 0 0 ∧ look a 1 = .sl (zs.map intP) ∧ look a 8 = .sl (zs.map intP) ∧ look a 9 = .val (.int .i64 zs.length) ∧ look a 10 = .val (.int .i64 i) ∧ look a 5 = .val (.int .i64 r) ∧ d = zs.length - i ∧ i ≤ zs.length ∧ r + cntB (memB choices) (zs.drop i) = cntB (memB choices) zs) ?_ _ zs.length _ (by omega) ⟨0, 0, _, rfl, by simp, by simp, by simp, by simp, by simp, by simp, rfl, by omega, by simp⟩
  rintro d st m ⟨i, r, a, rfl, h2, h1, h8, h9, h10, h5, rfl, hi, hr⟩ ih
  by_cases hlt : i < zs.length
  · obtain ⟨z, hz'⟩ : ∃ z, zs[i]? = some z := ⟨zs[i], by simp⟩
    have hw := wrap_succ hlt (by omega)
    have hd : decide ((i : Int) < zs.length) = true := by simp [hlt]
    have wc := containsI_ev n choices z (by omega) (by omega)
    have hm : choices.any (fun x => decide (z = x)) = memB choices z := rfl
    rw [hm] at wc
    simp only [hq] at wc
    rw [drop_cons hz', cntB] at hr
    have hwr : IntKind.i64.wrap ((r : Int) + 1) = (r : Int) + 1 := wrap_i64 (by omega) (by omega)
    cases hb : memB choices z with
    | true =>
      rw [hb] at wc hr
      rw [if_pos rfl] at hr
      simp [-frame, -getElem?_pos, h2, h1, h8, h9, h10, h5, hd, hz', hlt, hw, hwr, hq, wc]
      exact ih _ _ (by omega) ⟨i + 1, r + 1, _, rfl, by simp [h2], by simp [h1], by simp [h8], by simp [h9], by simp, by simp, rfl, by omega, by omega⟩
    | false =>
      rw [hb] at wc hr
      rw [if_neg (by simp)] at hr
      simp [-frame, -getElem?_pos, h2, h1, h8, h9, h10, h5, hd, hz', hlt, hw, hwr, hq, wc]
      exact ih _ _ (by omega) ⟨i + 1, r, _, rfl, by simp [h2], by simp [h1], by simp [h8], by simp [h9], by simp, by simp [h5], rfl, by omega, by omega⟩
  · obtain rfl : i = zs.length := by omega
    rw [List.drop_length] at hr
    have hr' : (r : Int) = cntB (memB choices) zs := by simp [cntB] at hr; omega
    have hw1 : IntKind.i64.wrap (2 * (cntB (memB choices) zs : Int)) = 2 * (cntB (memB choices) zs : Int) := wrap_i64 (by omega) (by omega)
    have hw2 : IntKind.i64.wrap (2 * (cntB (memB choices) zs : Int) - zs.length) = 2 * (cntB (memB choices) zs : Int) - zs.length := wrap_i64 (by omega) (by omega)
    rw [hr'] at h5
    simp [-frame, h2, h1, h8, h9, h10, h5, hw1, hw2, hq, wsh]
def ordR (f : Int → Int) : List Int → Nat
  | [] => 0
  | a :: t => cntB (fun b => decide (f a < f b)) t + ordR f t
def ordA : List Int → Nat
  | [] => 0
  | _ :: t => t.length + ordA t
theorem ordR_le (f : Int → Int) : ∀ l : List Int, ordR f l ≤ ordA l
  | [] => Nat.le_refl _
  | a :: t => by
    have h1 := ordR_le f t
    have h2 := cntB_le (fun b => decide (f a < f b)) t
    unfold ordR ordA
    omega
theorem ordA_le : ∀ l : List Int, ordA l ≤ l.length * 1000000 ∨ 1000000 < l.length
  | [] => .inl (by simp [ordA])
  | a :: t => by
    rcases ordA_le t with h | h
    · by_cases ht : t.length < 1000000
      · left; unfold ordA; rw [List.length_cons]; omega
      · right; rw [List.length_cons]; omega
    · right; rw [List.length_cons]; omega
theorem order_ev (n : Nat) (it : It) (zs : List Int) (hz : zs.length ≤ 1000000) (hzn : zs.length ≤ n) (hc : it.choices.length ≤ 1000000) (hcn : it.choices.length ≤ n) (hp0 : 0 ≤ it.pts) (hp : it.pts ≤ 5) (hd : 0 < ordA zs) :
    (ev Tryz.prog tab (n + 3)).callA 22 [it.pv, .sl (zs.map intP)] = some [intP (shareI it.pts (2 * (ordR (fun x => idxI x it.choices 0) zs : Int) - ordA zs) (ordA zs))] := by
  obtain ⟨id, ver, kind, stem, opts, choices, val, tol, texts, pts, cont, fam, set, words, secs, assets, rub⟩ := it
  simp only at hc hcn hp0 hp
  have hq : ∀ z : Int, intP z = .val (.int .i64 z) := fun _ => rfl
  obtain ⟨f, hf⟩ : ∃ f : Int → Int, f = fun x => idxI x choices 0 := ⟨_, rfl⟩
  have hle := ordR_le f zs
  have hle2 : ordA zs ≤ 1000000000000 := by
    rcases ordA_le zs with h | h
    · omega
    · omega
  have wsh := share_ev (n + 1) pts (2 * (ordR f zs : Int) - ordA zs) (ordA zs) hp0 hp (by omega) (by omega) (by omega) (by omega)
  simp only [hq] at wsh
  rw [← hf]
  have wi : ∀ z, (ev Tryz.prog tab (n + 2)).callA 56 [.sl (choices.map intP), .val (.int .i64 z)] = some [.val (.int .i64 (f z))] := fun z => by
    have := indexI_ev (n + 1) choices z (by omega) (by omega)
    rw [hf]
    simpa only [hq] using this
  rw [callA_fn rfl Tryz.func22 rfl rfl rfl]
  simp [-frame, Tryz.f22, It.pv, hq]
  refine loop_rule (fun d st => ∃ (i r s : Nat) (a : List (Nat × TV)), st = { tm := frameOf 50 a, sus := [], so := [(2, .box [TV.val (.int .i64 id), TV.val (.int .i64 ver), .val (.int .i64 kind), .val (.string stem), .sl (opts.map strP), .sl (choices.map intP), .val (.int .i64 val), .val (.int .i64 tol), .sl (texts.map strP), .val (.int .i64 pts), .val (.string cont), .val (.int .i64 fam), .val (.int .i64 set), .val (.int .i64 words), .val (.int .i64 secs), .sl (assets.map intP), .val (.int .i64 rub)])] } ∧ look a 2 = .ptr 2 0 0 ∧ look a 1 = .sl (zs.map intP) ∧ look a 11 = .sl (zs.map intP) ∧ look a 12 = .val (.int .i64 zs.length) ∧ look a 13 = .val (.int .i64 i) ∧ look a 5 = .val (.int .i64 r) ∧ look a 6 = .val (.int .i64 s) ∧ d = zs.length - i ∧ i ≤ zs.length ∧ r + ordR f (zs.drop i) = ordR f zs ∧ s + ordA (zs.drop i) = ordA zs) ?_ _ zs.length _ (by omega) ⟨0, 0, 0, _, rfl, by simp, by simp, by simp, by simp, by simp, by simp, by simp, rfl, by omega, by simp, by simp⟩
  rintro d st m ⟨i, r, s, a, rfl, h2, h1, h11, h12, h13, h5, h6, rfl, hi, hr, hs⟩ ih
  by_cases hlt : i < zs.length
  · obtain ⟨z, hz'⟩ : ∃ z, zs[i]? = some z := ⟨zs[i], by simp⟩
    have hw := wrap_succ hlt (by omega)
    have hd : decide ((i : Int) < zs.length) = true := by simp [hlt]
    rw [drop_cons hz', ordR] at hr
    rw [drop_cons hz', ordA] at hs
    obtain ⟨rest, hrest⟩ : ∃ rest, rest = zs.drop (i + 1) := ⟨_, rfl⟩
    rw [← hrest] at hr hs
    have htk : List.take zs.length (zs.map intP) = zs.map intP := List.take_of_length_le (by simp)
    have hrl : rest.length = zs.length - (i + 1) := by rw [hrest, List.length_drop]
    simp [-frame, -getElem?_pos, h2, h1, h11, h12, h13, h5, h6, hd, hz', hlt, hw, hq, sized_int, show (i : Int) + 1 ≤ zs.length by omega, show (0 : Int) ≤ (i : Int) + 1 by omega]
    refine loop_rule (fun d st => ∃ (j r2 s2 : Nat) (a : List (Nat × TV)), st = { tm := frameOf 50 a, sus := [], so := [(2, .box [TV.val (.int .i64 id), TV.val (.int .i64 ver), .val (.int .i64 kind), .val (.string stem), .sl (opts.map strP), .sl (choices.map intP), .val (.int .i64 val), .val (.int .i64 tol), .sl (texts.map strP), .val (.int .i64 pts), .val (.string cont), .val (.int .i64 fam), .val (.int .i64 set), .val (.int .i64 words), .val (.int .i64 secs), .sl (assets.map intP), .val (.int .i64 rub)])] } ∧ look a 2 = .ptr 2 0 0 ∧ look a 1 = .sl (zs.map intP) ∧ look a 11 = .sl (zs.map intP) ∧ look a 12 = .val (.int .i64 zs.length) ∧ look a 13 = .val (.int .i64 i) ∧ look a 8 = .val (.int .i64 z) ∧ look a 21 = .sl (rest.map intP) ∧ look a 22 = .val (.int .i64 rest.length) ∧ look a 23 = .val (.int .i64 j) ∧ look a 5 = .val (.int .i64 r2) ∧ look a 6 = .val (.int .i64 s2) ∧ d = rest.length - j ∧ j ≤ rest.length ∧ r2 + cntB (fun b => decide (f z < f b)) (rest.drop j) = r + cntB (fun b => decide (f z < f b)) rest ∧ s2 + (rest.drop j).length = s + rest.length) ?_ _ rest.length _ (by omega) ⟨0, r, s, _, rfl, by simp [h2], by simp [h1], by simp [h11], by simp [h12], by simp [h13], by simp, by simp [hrest, htk], by simp [hrl], by simp, by simp [h5], by simp [h6], rfl, by omega, by simp, by simp⟩
    clear h2 h1 h11 h12 h13 h5 h6
    rintro d st k ⟨j, r2, s2, a, rfl, h2, h1, h11, h12, h13, h8, h21, h22, h23, h5, h6, rfl, hj, hr2, hs2⟩ ih2
    by_cases hlt2 : j < rest.length
    · obtain ⟨y, hy⟩ : ∃ y, rest[j]? = some y := ⟨rest[j], by simp⟩
      have hw2 := wrap_succ hlt2 (by omega)
      have hd2 : decide ((j : Int) < rest.length) = true := by simp [hlt2]
      rw [drop_cons hy, cntB] at hr2
      rw [drop_cons hy, List.length_cons] at hs2
      have hws : IntKind.i64.wrap ((s2 : Int) + 1) = (s2 : Int) + 1 := wrap_i64 (by omega) (by omega)
      have hwr : IntKind.i64.wrap ((r2 : Int) + 1) = (r2 : Int) + 1 := wrap_i64 (by omega) (by
        have := cntB_le (fun b => decide (f z < f b)) rest
        omega)
      by_cases hb : f z < f y
      · rw [if_pos (by simpa using hb)] at hr2
        simp [-frame, -getElem?_pos, h2, h1, h11, h12, h13, h8, h21, h22, h23, h5, h6, hd2, hy, hlt2, hw2, hws, hwr, hq]
        refine (drawK_of (by kernel_rfl)).trans ?_
        simp [-frame, evOpD, callD, argRows, h2, h1, h11, h12, h13, h8, h21, h22, h23, h5, h6, hw2, hws, hwr, wi, hb]
        exact ih2 _ _ (by omega) ⟨j + 1, r2 + 1, s2 + 1, _, rfl, by simp [h2], by simp [h1], by simp [h11], by simp [h12], by simp [h13], by simp [h8], by simp [h21], by simp [h22], by simp, by simp, by simp, rfl, by omega, by omega, by omega⟩
      · rw [if_neg (by simpa using hb)] at hr2
        simp [-frame, -getElem?_pos, h2, h1, h11, h12, h13, h8, h21, h22, h23, h5, h6, hd2, hy, hlt2, hw2, hws, hwr, hq]
        refine (drawK_of (by kernel_rfl)).trans ?_
        simp [-frame, evOpD, callD, argRows, h2, h1, h11, h12, h13, h8, h21, h22, h23, h5, h6, hw2, hws, hwr, wi, hb]
        exact ih2 _ _ (by omega) ⟨j + 1, r2, s2 + 1, _, rfl, by simp [h2], by simp [h1], by simp [h11], by simp [h12], by simp [h13], by simp [h8], by simp [h21], by simp [h22], by simp, by simp [h5], by simp, rfl, by omega, by omega, by omega⟩
    · obtain rfl : j = rest.length := by omega
      rw [List.drop_length, cntB] at hr2
      rw [List.drop_length, List.length_nil] at hs2
      simp [-frame, h2, h1, h11, h12, h13, h8, h21, h22, h23, h5, h6, hw]
      exact ih _ _ (by omega) ⟨i + 1, r2, s2, _, rfl, by simp [h2], by simp [h1], by simp [h11], by simp [h12], by simp, by simp [h5], by simp [h6], rfl, by omega, by rw [← hrest]; omega, by rw [← hrest]; omega⟩
  · obtain rfl : i = zs.length := by omega
    rw [List.drop_length] at hr hs
    have hr' : (r : Int) = ordR f zs := by simp [ordR] at hr; omega
    have hs' : (s : Int) = ordA zs := by simp [ordA] at hs; omega
    have hw1 : IntKind.i64.wrap (2 * (ordR f zs : Int)) = 2 * (ordR f zs : Int) := wrap_i64 (by omega) (by omega)
    have hw2 : IntKind.i64.wrap (2 * (ordR f zs : Int) - ordA zs) = 2 * (ordR f zs : Int) - ordA zs := wrap_i64 (by omega) (by omega)
    rw [hr'] at h5
    rw [hs'] at h6
    simp [-frame, h2, h1, h11, h12, h13, h5, h6, hw1, hw2, hq, wsh]
end Go.Proofs.YtlhjljplfmmoaaaGreatDoor.Ev
