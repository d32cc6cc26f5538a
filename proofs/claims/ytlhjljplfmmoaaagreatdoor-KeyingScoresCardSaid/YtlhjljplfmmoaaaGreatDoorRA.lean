/- The reference's parts of the item check: what they compute. -/
import Derived.Test.YtlhjljplfmmoaaaGreatDoorF9
import Derived.Test.YtlhjljplfmmoaaaGreatDoorSp
import Derived.Test.YtlhjljplfmmoaaaGreatDoorF31
import Derived.Lib.Strings
namespace Go.Proofs.YtlhjljplfmmoaaaGreatDoor.Ev
open Go
set_option linter.unusedSimpArgs false
set_option linter.unusedVariables false
set_option maxRecDepth 10000
set_option maxHeartbeats 4000000
theorem within_r (n : Nat) (a b c : Int) : (ev Tryz.prog tab (n + 1)).callA 61 [intP a, intP b, intP c] = some [.val (.bool (withinB a b c))] := by
  rw [callA_fn rfl Tryz.func61 rfl rfl rfl]
  simp [Tryz.f61, withinB, intP]
  by_cases h : b ≤ a <;> simp [h]
theorem printable_r (n : Nat) (s : ByteArray) (l : List UInt8) (hl : s.data.toList = l) (most : Int) (feeds : Bool) (hs : s.size ≤ 9223372036854775807) (hn : s.size ≤ n) :
    (ev Tryz.prog tab (n + 1)).callA 92 [strP s, intP most, .val (.bool feeds)] = some [.val (.bool (printB l most feeds))] := by
  have hsz := size_l hl
  rw [callA_fn rfl Tryz.func92 rfl rfl rfl]
  by_cases g1 : (s.size : Int) < 1
  · have : printB l most feeds = false := by simp [printB, withinB]; omega
    simp [-frame, Tryz.f92, intP, strP, g1, this]
  by_cases g2 : most < (s.size : Int)
  · have : printB l most feeds = false := by simp [printB, withinB]; omega
    simp [-frame, Tryz.f92, intP, strP, g1, g2, this]
  have hpb : printB l most feeds = l.all (printC feeds) := by
    have : withinB l.length 1 most = true := by simp [withinB]; omega
    unfold printB
    rw [this, Bool.and_true]
  rw [hpb]
  simp [-frame, Tryz.f92, intP, strP, g1, g2]
  refine loop_rule (fun d st => ∃ (i : Nat) (a : List (Nat × TV)), st = { tm := frameOf 43 a, sus := [], so := [] } ∧ look a 0 = .val (.string s) ∧ look a 2 = .val (.bool feeds) ∧ look a 7 = .val (.int .i64 i) ∧ look a 6 = .val (.bool false) ∧ d = s.size - i ∧ i ≤ s.size ∧ (l.take i).all (printC feeds) = true) ?_ _ s.size _ (by omega) ⟨0, _, rfl, by simp, by simp, by simp, by simp, rfl, by omega, by simp⟩
  rintro d st m ⟨i, a, rfl, h0, h2, h7, h6, rfl, hi, hall⟩ ih
  by_cases hlt : i < s.size
  · obtain ⟨c, hc⟩ : ∃ c, l[i]? = some c := ⟨l[i], by simp⟩
    have hc' : s[i]? = some c := by rw [get_l hl, hc]
    have hw := wrap_succ hlt hs
    have hd : decide ((i : Int) < s.size) = true := by simp [hlt]
    by_cases h1 : (c.toNat : Int) < 32 <;> by_cases h3 : 126 < (c.toNat : Int) <;> cases feeds <;> by_cases h4 : (c.toNat : Int) = 10 <;> simp [-frame, -getElem?_pos, h0, h2, h7, h6, hd, hc', hlt, hw, h1, h3, h4]
    all_goals first
      | omega
      | exact ih _ _ (by omega) ⟨i + 1, _, rfl, by simp [h0], by simp [h2], by simp, by simp [h6], rfl, by omega, all_take hall hc (by simp [printC, h1, h3, h4])⟩
      | exact ⟨c, List.mem_of_getElem? hc, by simp [printC, h1, h3, h4]⟩
      | trace_state
  · obtain rfl : i = s.size := by omega
    rw [hsz, List.take_length] at hall
    simp [-frame, h0, h2, h7, h6, hall, hsz]
theorem rising_r (n : Nat) (zs : List Int) (a b : Int) (hs : zs.length ≤ 9223372036854775807) (hn : zs.length ≤ n) :
    (ev Tryz.prog tab (n + 2)).callA 64 [.sl (zs.map intP), intP a, intP b] = some [.val (.bool (risingB zs a b))] := by
  have w := within_r n
  simp only [intP] at w
  rw [callA_fn rfl Tryz.func64 rfl rfl rfl]
  have hq : ∀ z : Int, intP z = .val (.int .i64 z) := fun _ => rfl
  simp [Tryz.f64, hq]
  refine loop_rule (fun d st => ∃ (i : Nat) (j3 j4 j5 j7 j8 j12 j13 j14 j15 j16 j17 j18 j19 j20 j21 j22 j23 j24 j25 j26 j27 j28 j29 j30 j31 j32 j33 j34 : TV), st = { tm := [.sl (zs.map intP), .val (.int .i64 a), .val (.int .i64 b), j3, j4, j5, .val (.bool false), j7, j8, .sl (zs.map intP), .val (.int .i64 zs.length), .val (.int .i64 i), j12, j13, j14, j15, j16, j17, j18, j19, j20, j21, j22, j23, j24, j25, j26, j27, j28, j29, j30, j31, j32, j33, j34], sus := [], so := [] } ∧ d = zs.length - i ∧ i ≤ zs.length ∧ (List.range i).all (riseAt zs a b) = true) ?_ _ zs.length _ (by omega) ⟨0, _, _, _, _, _, _, _, _, _, _, _, _, _, _, _, _, _, _, _, _, _, _, _, _, _, _, _, _, rfl, rfl, by omega, by simp⟩
  rintro d st m ⟨i, j3, j4, j5, j7, j8, j12, j13, j14, j15, j16, j17, j18, j19, j20, j21, j22, j23, j24, j25, j26, j27, j28, j29, j30, j31, j32, j33, j34, rfl, rfl, hi, hall⟩ ih
  by_cases hlt : i < zs.length
  · obtain ⟨z, hc⟩ : ∃ z, zs[i]? = some z := ⟨zs[i], by simp⟩
    have hw := wrap_succ hlt hs
    have hd : decide ((i : Int) < zs.length) = true := by simp [hlt]
    have hno : riseAt zs a b i = false → risingB zs a b = false := fun h => by unfold risingB; exact range_not hlt h
    have hok : riseAt zs a b i = (withinB z a b && (decide (i = 0) || match zs[i - 1]? with | some y => !decide (z ≤ y) | none => true)) := by unfold riseAt; rw [hc]; rfl
    by_cases hwi : withinB z a b = true
    · by_cases h0 : 0 < i
      · obtain ⟨y, hy⟩ : ∃ y, zs[i - 1]? = some y := ⟨zs[i - 1], by simp⟩
        have hwm : IntKind.i64.wrap ((i : Int) - 1) = ((i - 1 : Nat) : Int) := by rw [wrap_i64 (by omega) (by omega)]; omega
        have hlm : i - 1 < zs.length := by omega
        by_cases hzy : z ≤ y
        · simp [-getElem?_pos, hd, hc, hlt, hw, hq, w, hwi, h0, hwm, hy, hlm, hzy]
          exact hno (by rw [hok, hwi, hy]; simp [hzy]; omega)
        · simp [-getElem?_pos, hd, hc, hlt, hw, hq, w, hwi, h0, hwm, hy, hlm, hzy]
          exact ih _ _ (by omega) ⟨i + 1, _, _, _, _, _, _, _, _, _, _, _, _, _, _, _, _, _, _, _, _, _, _, _, _, _, _, _, _, rfl, rfl, by omega, range_all hall (by rw [hok, hwi, hy]; simp [hzy])⟩
      · obtain rfl : i = 0 := by omega
        simp [-getElem?_pos, hd, hc, hlt, hw, hq, w, hwi]
        exact ih _ _ (by omega) ⟨0 + 1, _, _, _, _, _, _, _, _, _, _, _, _, _, _, _, _, _, _, _, _, _, _, _, _, _, _, _, _, rfl, rfl, by omega, range_all hall (by rw [hok, hwi]; simp)⟩
    · simp at hwi
      simp [-getElem?_pos, hd, hc, hlt, hw, hq, w, hwi]
      exact hno (by rw [hok, hwi]; rfl)
  · obtain rfl : i = zs.length := by omega
    simp [risingB, hall]
end Go.Proofs.YtlhjljplfmmoaaaGreatDoor.Ev
namespace Go.Proofs.YtlhjljplfmmoaaaGreatDoor.Ev
open Go
set_option linter.unusedSimpArgs false
set_option linter.unusedVariables false
set_option maxRecDepth 10000
set_option maxHeartbeats 4000000
def cntZ (j : Nat) (zs : List Int) : Nat := cntB (fun x => decide (x = (j : Int))) zs
def permB (zs : List Int) (k : Nat) : Bool := decide (zs.length = k) && (List.range k).all (fun j => decide (cntZ j zs = 1))
theorem permutation_r (n : Nat) (zs : List Int) (k : Nat) (hs : zs.length ≤ 9223372036854775806) (hn : zs.length ≤ n) :
    (ev Tryz.prog tab (n + 1)).callA 94 [.sl (zs.map intP), intP k] = some [.val (.bool (permB zs k))] := by
  have hq : ∀ z : Int, intP z = .val (.int .i64 z) := fun _ => rfl
  rw [callA_fn rfl Tryz.func94 rfl rfl rfl]
  by_cases hk : zs.length = k
  · have hpb : permB zs k = (List.range k).all (fun j => decide (cntZ j zs = 1)) := by unfold permB; simp [hk]
    obtain ⟨V, hV⟩ : ∃ V, V = permB zs k := ⟨_, rfl⟩
    rw [← hV]
    rw [hpb] at hV
    simp [-frame, Tryz.f94, hq, hk]
    refine loop_rule (fun d st => ∃ (i : Nat) (a : List (Nat × TV)), st = { tm := frameOf 32 a, sus := [], so := [] } ∧ look a 0 = .sl (zs.map intP) ∧ look a 1 = .val (.int .i64 k) ∧ look a 5 = .val (.int .i64 i) ∧ look a 4 = .val (.bool false) ∧ d = k - i ∧ i ≤ k ∧ (List.range i).all (fun j => decide (cntZ j zs = 1)) = true) ?_ _ k _ (by omega) ⟨0, _, rfl, by simp, by simp, by simp, by simp, rfl, by omega, by simp⟩
    rintro d st m ⟨i, a, rfl, h0, h1, h5, h4, rfl, hi, hall⟩ ih
    by_cases hlt : i < k
    · have hw := wrap_succ hlt (by omega)
      have hd : decide ((i : Int) < k) = true := by simp [hlt]
      simp [-frame, h0, h1, h5, h4, hd, hlt]
      refine loop_rule (fun d st => ∃ (j r : Nat) (a : List (Nat × TV)), st = { tm := frameOf 32 a, sus := [], so := [] } ∧ look a 0 = .sl (zs.map intP) ∧ look a 1 = .val (.int .i64 k) ∧ look a 5 = .val (.int .i64 i) ∧ look a 4 = .val (.bool false) ∧ look a 18 = .sl (zs.map intP) ∧ look a 19 = .val (.int .i64 zs.length) ∧ look a 20 = .val (.int .i64 j) ∧ look a 6 = .val (.int .i64 r) ∧ d = zs.length - j ∧ j ≤ zs.length ∧ r + cntZ i (zs.drop j) = cntZ i zs) ?_ _ zs.length _ (by omega) ⟨0, 0, _, rfl, by simp [h0], by simp [h1], by simp [h5], by simp [h4], by simp, by simp, by simp, by simp, rfl, by omega, by simp⟩
      clear h0 h1 h5 h4
      rintro d st m2 ⟨j, r, a, rfl, h0, h1, h5, h4, h18, h19, h20, h6, rfl, hj, hr⟩ ih2
      by_cases hlt2 : j < zs.length
      · obtain ⟨z, hz⟩ : ∃ z, zs[j]? = some z := ⟨zs[j], by simp⟩
        have hw2 := wrap_succ hlt2 (by omega)
        have hd2 : decide ((j : Int) < zs.length) = true := by simp [hlt2]
        unfold cntZ at hr
        rw [drop_cons hz, cntB] at hr
        have hle := cntB_le (fun x => decide (x = (i : Int))) zs
        have hwr : IntKind.i64.wrap ((r : Int) + 1) = (r : Int) + 1 := wrap_i64 (by omega) (by omega)
        by_cases hzi : z = (i : Int)
        · rw [if_pos (by simpa using hzi)] at hr
          simp [-frame, -getElem?_pos, h0, h1, h5, h4, h18, h19, h20, h6, hd2, hz, hlt2, hw2, hwr, hq, hzi]
          exact ih2 _ _ (by omega) ⟨j + 1, r + 1, _, rfl, by simp [h0], by simp [h1], by simp [h5], by simp [h4], by simp [h18], by simp [h19], by simp, by simp, rfl, by omega, by unfold cntZ; omega⟩
        · rw [if_neg (by simpa using hzi)] at hr
          simp [-frame, -getElem?_pos, h0, h1, h5, h4, h18, h19, h20, h6, hd2, hz, hlt2, hw2, hwr, hq, hzi]
          exact ih2 _ _ (by omega) ⟨j + 1, r, _, rfl, by simp [h0], by simp [h1], by simp [h5], by simp [h4], by simp [h18], by simp [h19], by simp, by simp [h6], rfl, by omega, by unfold cntZ; omega⟩
      · obtain rfl : j = zs.length := by omega
        rw [List.drop_length] at hr
        have hr' : r = cntZ i zs := by rw [← hr]; rfl
        by_cases h1c : r = 1
        · simp [-frame, h0, h1, h5, h4, h18, h19, h20, h6, hw, h1c]
          exact ih _ _ (by omega) ⟨i + 1, _, rfl, by simp [h0], by simp [h1], by simp, by simp [h4], rfl, by omega, range_all hall (by simp only [← hr', h1c]; rfl)⟩
        · have hVf : V = false := by rw [hV]; exact range_not hlt (by simp only [← hr']; simp [h1c])
          simp [-frame, h0, h1, h5, h4, h18, h19, h20, h6, hw, h1c, hVf, show ¬ (r : Int) = 1 by omega]
    · obtain rfl : i = k := by omega
      rw [hall] at hV
      simp [-frame, h0, h1, h5, h4, hV]
  · have : permB zs k = false := by unfold permB; simp [hk]
    simp [-frame, Tryz.f94, hq, this, show ¬ (zs.length : Int) = k by omega]
end Go.Proofs.YtlhjljplfmmoaaaGreatDoor.Ev
namespace Go.Proofs.YtlhjljplfmmoaaaGreatDoor.Ev
open Go
set_option linter.unusedSimpArgs false
set_option linter.unusedVariables false
set_option maxRecDepth 10000
set_option maxHeartbeats 4000000
theorem normalized_r (n : Nat) (s : ByteArray) (l : List UInt8) (hl : s.data.toList = l) (hs : s.size ≤ 9223372036854775807) (hn : s.size ≤ n) :
    (ev Tryz.prog tab (n + 1)).callA 95 [strP s] = some [.val (.bool (normB l))] := by
  have hsz := size_l hl
  rw [callA_fn rfl Tryz.func95 rfl rfl rfl]
  obtain ⟨V, hV⟩ : ∃ V, V = normB l := ⟨_, rfl⟩
  rw [← hV]
  simp [-frame, Tryz.f95, strP]
  refine loop_rule (fun d st => ∃ (i : Nat) (a : List (Nat × TV)), st = { tm := frameOf 58 a, sus := [], so := [] } ∧ look a 0 = .val (.string s) ∧ look a 2 = .val (.bool false) ∧ look a 3 = .val (.int .i64 i) ∧ d = s.size - i ∧ i ≤ s.size ∧ (List.range i).all (okAt l) = true) ?_ _ s.size _ (by omega) ⟨0, _, rfl, by simp, by simp, by simp, rfl, by omega, by simp⟩
  rintro d st m ⟨i, a, rfl, h0, h2, h3, rfl, hi, hall⟩ ih
  by_cases hlt : i < s.size
  · obtain ⟨c, hc⟩ : ∃ c, l[i]? = some c := ⟨l[i], by simp⟩
    have hc' : s[i]? = some c := by rw [get_l hl, hc]
    have hw := wrap_succ hlt hs
    have hd : decide ((i : Int) < s.size) = true := by simp [hlt]
    have hwl : IntKind.i64.wrap ((s.size : Int) - 1) = (s.size : Int) - 1 := wrap_i64 (by omega) (by omega)
    have hno : okAt l i = false → V = false := fun h => by rw [hV]; unfold normB; rw [range_not (by omega) h]; rfl
    have hok : okAt l i = (Kn.alnum c || (decide (c = 32) && decide (0 < i) && decide (i + 1 < l.length) && !decide (l[i - 1]? = some 32))) := by unfold okAt; rw [hc]
    rcases byte_cases (c.toNat : Int) with h | h | h | h | h | h
    · have e1 : ¬ (97 : Int) ≤ c.toNat := by omega
      have e2 : ¬ (48 : Int) ≤ c.toNat := by omega
      have e3 : ¬ (c.toNat : Int) = 32 := by omega
      have ha : Kn.alnum c = false := by simp [Kn.alnum]; omega
      have hc32 : c ≠ 32 := by rintro rfl; exact e3 rfl
      have hV := hno (by rw [hok, ha]; simp [hc32])
      simp [-frame, -getElem?_pos, h0, h2, h3, hd, hc', hlt, hw, e1, e2, e3, hV]
    · have e1 : ¬ (97 : Int) ≤ 32 := by omega
      have e2 : ¬ (48 : Int) ≤ 32 := by omega
      have hc32 := byte_32 h
      have ha : Kn.alnum c = false := by simp [Kn.alnum]; omega
      rw [ha, hc32] at hok
      by_cases h00 : 0 < i
      · obtain ⟨p, hp⟩ : ∃ p, l[i - 1]? = some p := ⟨l[i - 1], by simp⟩
        have hp' : s[i - 1]? = some p := by rw [get_l hl, hp]
        have hwm : IntKind.i64.wrap ((i : Int) - 1) = ((i - 1 : Nat) : Int) := by rw [wrap_i64 (by omega) (by omega)]; omega
        have hin : ¬ i = 0 := by omega
        have hlm : i - 1 < s.size := by omega
        by_cases h1 : i + 1 < s.size
        · have hil : ¬ (i : Int) = (s.size : Int) - 1 := by omega
          by_cases hp32 : (p.toNat : Int) = 32
          · have := byte_32 hp32
            subst this
            have hV := hno (by rw [hok, hp]; simp)
            simp [-frame, -getElem?_pos, h0, h2, h3, hd, hc', hlt, hw, h, h00, hin, h1, hwl, hil, hp32, hwm, hp', hlm, hV]
          · have hp3 : p ≠ 32 := by rintro rfl; exact hp32 rfl
            simp [-frame, -getElem?_pos, h0, h2, h3, hd, hc', hlt, hw, h, h00, hin, h1, hwl, hil, hp32, hwm, hp', hlm]
            exact ih _ _ (by omega) ⟨i + 1, _, rfl, by simp [h0], by simp [h2], by simp, rfl, by omega, range_all hall (by rw [hok, hp]; simp [h00, hp3]; omega)⟩
        · have hil : (i : Int) = (s.size : Int) - 1 := by omega
          have hil2 := eq_true hil
          have hV := hno (by rw [hok]; simp; omega)
          simp [-frame, -getElem?_pos, h0, h2, h3, hd, hc', hlt, hw, h, h00, hin, h1, hwl, hil2, hV]
      · have hin : i = 0 := by omega
        have hV := hno (by rw [hok]; simp; omega)
        subst hin
        simp [-frame, -getElem?_pos, h0, h2, h3, hd, hc', hlt, hw, h, hV]
    · have e1 : ¬ (97 : Int) ≤ c.toNat := by omega
      have e4 : ¬ (c.toNat : Int) = 32 := by omega
      have ha : Kn.alnum c = true := by simp [Kn.alnum]; omega
      simp [-frame, -getElem?_pos, h0, h2, h3, hd, hc', hlt, hw, e1, e4, h.1, h.2]
      exact ih _ _ (by omega) ⟨i + 1, _, rfl, by simp [h0], by simp [h2], by simp, rfl, by omega, range_all hall (by rw [hok, ha]; rfl)⟩
    · have e1 : ¬ (97 : Int) ≤ c.toNat := by omega
      have e2 : (48 : Int) ≤ c.toNat := by omega
      have e3 : ¬ (c.toNat : Int) ≤ 57 := by omega
      have e4 : ¬ (c.toNat : Int) = 32 := by omega
      have ha : Kn.alnum c = false := by simp [Kn.alnum]; omega
      have hc32 : c ≠ 32 := by rintro rfl; exact e4 rfl
      have hV := hno (by rw [hok, ha]; simp [hc32])
      simp [-frame, -getElem?_pos, h0, h2, h3, hd, hc', hlt, hw, e1, e2, e3, e4, hV]
    · have ha : Kn.alnum c = true := by simp [Kn.alnum]; omega
      have e4 : ¬ (c.toNat : Int) = 32 := by omega
      simp [-frame, -getElem?_pos, h0, h2, h3, hd, hc', hlt, hw, e4, h.1, h.2]
      exact ih _ _ (by omega) ⟨i + 1, _, rfl, by simp [h0], by simp [h2], by simp, rfl, by omega, range_all hall (by rw [hok, ha]; rfl)⟩
    · have e1 : (97 : Int) ≤ c.toNat := by omega
      have e2 : (48 : Int) ≤ c.toNat := by omega
      have e3 : ¬ (c.toNat : Int) ≤ 57 := by omega
      have e5 : ¬ (c.toNat : Int) ≤ 122 := by omega
      have e4 : ¬ (c.toNat : Int) = 32 := by omega
      have ha : Kn.alnum c = false := by simp [Kn.alnum]; omega
      have hc32 : c ≠ 32 := by rintro rfl; exact e4 rfl
      have hV := hno (by rw [hok, ha]; simp [hc32])
      simp [-frame, -getElem?_pos, h0, h2, h3, hd, hc', hlt, hw, e1, e2, e3, e4, e5, hV]
  · obtain rfl : i = s.size := by omega
    rw [hsz] at hall
    have : V = decide (0 < s.size) := by rw [hV, hsz]; unfold normB; rw [hall]; rfl
    simp [-frame, h0, h2, h3, this]
end Go.Proofs.YtlhjljplfmmoaaaGreatDoor.Ev
namespace Go.Proofs.YtlhjljplfmmoaaaGreatDoor.Ev
open Go
set_option linter.unusedSimpArgs false
set_option linter.unusedVariables false
set_option maxRecDepth 10000
set_option maxHeartbeats 4000000
def codeB : List UInt8 → Nat → Nat → Bool
  | [], g, z => decide (0 < z) && decide (g ≤ 5)
  | c :: t, g, z => if c = 46 then (if z = 0 then false else codeB t (g + 1) 0) else if wc c = true then (if 8 < z + 1 then false else codeB t g (z + 1)) else false
theorem byte_46 {c : UInt8} (h : (c.toNat : Int) = 46) : c = 46 := by
  apply UInt8.toNat_inj.1; show c.toNat = 46; omega
theorem code_r (n : Nat) (s : ByteArray) (l : List UInt8) (hl : s.data.toList = l) (hs : s.size ≤ 9223372036854775807) (hn : 24 ≤ n) :
    (ev Tryz.prog tab (n + 1)).callA 93 [strP s] = some [.val (.bool (decide (s.size ≤ 24) && codeB l 1 0))] := by
  have hsz := size_l hl
  rw [callA_fn rfl Tryz.func93 rfl rfl rfl]
  by_cases g1 : 24 < (s.size : Int)
  · simp [-frame, Tryz.f93, strP, g1, show ¬ s.size ≤ 24 by omega]
  have g2 : s.size ≤ 24 := by omega
  obtain ⟨V, hV⟩ : ∃ V, V = (decide (s.size ≤ 24) && codeB l 1 0) := ⟨_, rfl⟩
  rw [← hV]
  have hV : V = codeB l 1 0 := by rw [hV]; simp [g2]
  simp [-frame, Tryz.f93, strP, g1]
  refine loop_rule (fun d st => ∃ (i g z : Nat) (a : List (Nat × TV)), st = { tm := frameOf 49 a, sus := [], so := [] } ∧ look a 0 = .val (.string s) ∧ look a 5 = .val (.int .i64 i) ∧ look a 3 = .val (.int .i64 g) ∧ look a 4 = .val (.int .i64 z) ∧ look a 2 = .val (.bool false) ∧ d = s.size - i ∧ i ≤ s.size ∧ g ≤ i + 1 ∧ z ≤ 8 ∧ codeB (l.drop i) g z = V) ?_ _ s.size _ (by omega) ⟨0, 1, 0, _, rfl, by simp, by simp, by simp, by simp, by simp, rfl, by omega, by omega, by omega, by rw [List.drop_zero, hV]⟩
  rintro d st m ⟨i, g, z, a, rfl, h0, h5, h3, h4, h2, rfl, hi, hg, hz, hcode⟩ ih
  by_cases hlt : i < s.size
  · obtain ⟨c, hc⟩ : ∃ c, l[i]? = some c := ⟨l[i], by simp⟩
    have hc' : s[i]? = some c := by rw [get_l hl, hc]
    have hw := wrap_succ hlt hs
    have hd : decide ((i : Int) < s.size) = true := by simp [hlt]
    have hwg : IntKind.i64.wrap ((g : Int) + 1) = (g : Int) + 1 := wrap_i64 (by omega) (by omega)
    have hwz : IntKind.i64.wrap ((z : Int) + 1) = (z : Int) + 1 := wrap_i64 (by omega) (by omega)
    rw [drop_cons hc, codeB] at hcode
    by_cases hp : (c.toNat : Int) = 46
    · rw [if_pos (byte_46 hp)] at hcode
      by_cases hz0 : z = 0
      · rw [if_pos hz0] at hcode
        simp [-frame, -getElem?_pos, h0, h5, h3, h4, h2, hd, hc', hlt, hw, hp, hz0, hcode.symm]
      · rw [if_neg hz0] at hcode
        simp [-frame, -getElem?_pos, h0, h5, h3, h4, h2, hd, hc', hlt, hw, hp, hz0, hwg]
        exact ih _ _ (by omega) ⟨i + 1, g + 1, 0, _, rfl, by simp [h0], by simp, by simp, by simp, by simp [h2], rfl, by omega, by omega, by omega, hcode⟩
    · rw [if_neg (by rintro rfl; exact hp rfl)] at hcode
      have hgo : wc c = true → (if 8 < z + 1 then false else codeB (l.drop (i + 1)) g (z + 1)) = V := fun h => by rw [← hcode, if_pos h]
      have hno : wc c = false → V = false := fun h => by rw [← hcode, h]; rfl
      have hreg : (c.toNat : Int) < 48 ∨ (48 ≤ (c.toNat : Int) ∧ (c.toNat : Int) ≤ 57) ∨ (57 < (c.toNat : Int) ∧ (c.toNat : Int) < 65) ∨ (65 ≤ (c.toNat : Int) ∧ (c.toNat : Int) ≤ 90) ∨ 90 < (c.toNat : Int) := by omega
      rcases hreg with h | h | h | h | h
      · have e1 : (c.toNat : Int) < 65 := by omega
        have hV := hno (by simp [wc, h, e1])
        simp [-frame, -getElem?_pos, h0, h5, h3, h4, h2, hd, hc', hlt, hw, hp, h, e1, hV]
      · have e1 : (c.toNat : Int) < 65 := by omega
        have e2 : ¬ (c.toNat : Int) < 48 := by omega
        have e3 : ¬ 57 < (c.toNat : Int) := by omega
        have hcode := hgo (by simp [wc, e1, e2, e3])
        by_cases hz8 : 8 < z + 1
        · rw [if_pos hz8] at hcode
          simp [-frame, -getElem?_pos, h0, h5, h3, h4, h2, hd, hc', hlt, hw, hp, e1, e2, e3, hwz, show (8 : Int) < (z : Int) + 1 by omega, hcode.symm]
        · rw [if_neg hz8] at hcode
          simp [-frame, -getElem?_pos, h0, h5, h3, h4, h2, hd, hc', hlt, hw, hp, e1, e2, e3, hwz, show ¬ (8 : Int) < (z : Int) + 1 by omega]
          exact ih _ _ (by omega) ⟨i + 1, g, z + 1, _, rfl, by simp [h0], by simp, by simp [h3], by simp, by simp [h2], rfl, by omega, by omega, by omega, hcode⟩
      · have e2 : ¬ (c.toNat : Int) < 48 := by omega
        have hV := hno (by simp [wc, h.1, h.2])
        simp [-frame, -getElem?_pos, h0, h5, h3, h4, h2, hd, hc', hlt, hw, hp, h.1, h.2, e2, hV]
      · have e1 : ¬ (c.toNat : Int) < 65 := by omega
        have e2 : ¬ 90 < (c.toNat : Int) := by omega
        have hcode := hgo (by simp [wc, e1, e2])
        by_cases hz8 : 8 < z + 1
        · rw [if_pos hz8] at hcode
          simp [-frame, -getElem?_pos, h0, h5, h3, h4, h2, hd, hc', hlt, hw, hp, e1, e2, hwz, show (8 : Int) < (z : Int) + 1 by omega, hcode.symm]
        · rw [if_neg hz8] at hcode
          simp [-frame, -getElem?_pos, h0, h5, h3, h4, h2, hd, hc', hlt, hw, hp, e1, e2, hwz, show ¬ (8 : Int) < (z : Int) + 1 by omega]
          exact ih _ _ (by omega) ⟨i + 1, g, z + 1, _, rfl, by simp [h0], by simp, by simp [h3], by simp, by simp [h2], rfl, by omega, by omega, by omega, hcode⟩
      · have e1 : ¬ (c.toNat : Int) < 65 := by omega
        have e2 : ¬ (c.toNat : Int) < 48 := by omega
        have e3 : 57 < (c.toNat : Int) := by omega
        have hV := hno (by simp [wc, h, e1, e2, e3])
        simp [-frame, -getElem?_pos, h0, h5, h3, h4, h2, hd, hc', hlt, hw, hp, h, e1, e2, e3, hV]
  · obtain rfl : i = s.size := by omega
    rw [hsz, List.drop_length, codeB] at hcode
    rw [← hcode]
    by_cases hz0 : 0 < z
    · simp [-frame, h0, h5, h3, h4, h2, hz0]
      try omega
    · simp [-frame, h0, h5, h3, h4, h2, hz0]
theorem indexL_spec (c : UInt8) : ∀ (l : List UInt8) (k : Int), (indexL c l k = -1 ∧ c ∉ l) ∨ ∃ i : Nat, indexL c l k = k + i ∧ i < l.length ∧ l = l.take i ++ c :: l.drop (i + 1) ∧ c ∉ l.take i
  | [], k => .inl ⟨rfl, by simp⟩
  | x :: t, k => by
    unfold indexL
    split
    · rename_i h
      right
      refine ⟨0, by simp, by simp, ?_, by simp⟩
      simpa using h
    · rename_i h
      have h : ¬ x = c := by simpa using h
      rcases indexL_spec c t (k + 1) with ⟨h1, h2⟩ | ⟨i, h1, h2, h3, h4⟩
      · left
        refine ⟨h1, ?_⟩
        intro hm
        rcases List.mem_cons.1 hm with rfl | hm
        · exact h rfl
        · exact h2 hm
      · right
        refine ⟨i + 1, by rw [h1]; push_cast; omega, by simpa using h2, ?_, ?_⟩
        · simp only [List.take_succ_cons, List.drop_succ_cons, List.cons_append]
          rw [← h3]
        · simp only [List.take_succ_cons]
          intro hm
          rcases List.mem_cons.1 hm with rfl | hm
          · exact h rfl
          · exact h4 hm
theorem code_seg : ∀ (a r : List UInt8) (g z : Nat), (46 : UInt8) ∉ a → codeB (a ++ r) g z = if a.all wc = true ∧ z + a.length ≤ 8 then codeB r g (z + a.length) else if a = [] then codeB r g z else false
  | [], r, g, z, _ => by
    simp
  | c :: t, r, g, z, h => by
    have hc : ¬ c = 46 := fun e => h (by rw [e]; exact List.mem_cons_self)
    have ht : (46 : UInt8) ∉ t := fun e => h (List.mem_cons_of_mem _ e)
    rw [List.cons_append, codeB, if_neg hc, if_neg (show ¬ (c :: t = []) by simp)]
    cases hw : wc c with
    | false => simp [hw]
    | true =>
      rw [if_pos rfl]
      by_cases hz : 8 < z + 1
      · rw [if_pos hz, if_neg (by rw [List.length_cons]; omega)]
      · rw [if_neg hz, code_seg t r g (z + 1) ht]
        have e : z + (c :: t).length = z + 1 + t.length := by rw [List.length_cons]; omega
        rw [e, List.all_cons, hw, Bool.true_and]
        by_cases ht0 : t = []
        · subst ht0; simp; omega
        · rw [if_neg ht0]
theorem code_deep : ∀ (l : List UInt8) (g z : Nat), 5 < g → codeB l g z = false
  | [], g, z, h => by
    unfold codeB
    rw [show decide (g ≤ 5) = false by simp; omega, Bool.and_false]
  | c :: t, g, z, h => by
    unfold codeB
    split
    · split
      · rfl
      · exact code_deep t _ _ (by omega)
    · split
      · split
        · rfl
        · exact code_deep t _ _ h
      · rfl
theorem code_dot (a r : List UInt8) (g : Nat) (h : (46 : UInt8) ∉ a) : codeB (a ++ 46 :: r) g 0 = (wordB a && codeB r (g + 1) 0) := by
  rw [code_seg _ _ _ _ h]
  unfold wordB
  by_cases h0 : a = []
  · subst h0
    simp [codeB]
  · have hp := List.length_pos_iff.2 h0
    rw [if_neg h0, codeB, if_pos rfl]
    by_cases h1 : a.all wc = true ∧ 0 + a.length ≤ 8
    · rw [if_pos h1, if_neg (by omega), h1.1]
      simp; omega
    · rw [if_neg h1]
      by_cases h2 : a.all wc = true
      · have : ¬ a.length ≤ 8 := fun h => h1 ⟨h2, by omega⟩
        simp [this]
      · simp only [Bool.not_eq_true] at h2
        simp [h2]
theorem code_end (a : List UInt8) (g : Nat) (h : (46 : UInt8) ∉ a) : codeB a g 0 = (wordB a && decide (g ≤ 5)) := by
  have := code_seg a [] g 0 h
  rw [List.append_nil] at this
  rw [this]
  unfold wordB
  by_cases h0 : a = []
  · subst h0
    simp [codeB]
  · have hp := List.length_pos_iff.2 h0
    rw [if_neg h0, codeB]
    by_cases h1 : a.all wc = true ∧ 0 + a.length ≤ 8
    · rw [if_pos h1, h1.1]
      have q1 : decide (0 < 0 + a.length) = true := decide_eq_true (by omega)
      have q2 : decide (1 ≤ a.length) = true := decide_eq_true (by omega)
      have q3 : decide (a.length ≤ 8) = true := decide_eq_true (by omega)
      simp only [q1, q2, q3, Bool.true_and, Bool.and_true]
    · rw [if_neg h1]
      by_cases h2 : a.all wc = true
      · have : ¬ a.length ≤ 8 := fun h => h1 ⟨h2, by omega⟩
        simp [this]
      · simp only [Bool.not_eq_true] at h2
        simp [h2]
theorem cut_x (s : ByteArray) (hs : s.size ≤ 9223372036854775807) :
    ∃ x y b, x.size ≤ s.size ∧ y.size ≤ s.size ∧ (∀ g, codeB s.data.toList g 0 = (wordB x.data.toList && if b = true then codeB y.data.toList (g + 1) 0 else decide (g ≤ 5))) ∧ ∀ n, (ev Tryz.prog tab (n + 5)).callA 80 [strP s, strP ⟨#[46]⟩] = some [strP x, strP y, .val (.bool b)] := by
  obtain ⟨l, hl⟩ : ∃ l, s.data.toList = l := ⟨_, rfl⟩
  have hsz := size_l hl
  have hz : (⟨#[46]⟩ : ByteArray).size = 1 := rfl
  have g2 : ∃ x y b, x.size ≤ s.size ∧ y.size ≤ s.size ∧ (∀ g, codeB s.data.toList g 0 = (wordB x.data.toList && if b = true then codeB y.data.toList (g + 1) 0 else decide (g ≤ 5))) ∧ ∀ n, (ev Tryz.prog tab (n + 4)).callA 114 [.val (.string s), .val (.string ⟨#[46]⟩)] = some [.val (.string x), .val (.string y), .val (.bool b)] := by
    rcases indexL_spec 46 l 0 with ⟨h, hno⟩ | ⟨k, hk, h2, h3, h4⟩
    · refine ⟨s, ⟨#[]⟩, false, Nat.le_refl _, Nat.zero_le _, fun g => ?_, fun n => ?_⟩
      · rw [hl, code_end l g hno]; rfl
      have g := index1_ev n s 46 l hl
      simp only [strP, intP] at g
      rw [h] at g
      rw [callA_fn rfl Tryz.func114 rfl rfl rfl]
      simp [Tryz.f114, g]
    · rw [Int.zero_add] at hk
      have hw := wrap_succ (i := k) (m := s.size) (by omega) hs
      refine ⟨s.extract 0 k, s.extract (k + 1) s.size, true, by rw [ByteArray.size_extract]; omega, by rw [ByteArray.size_extract]; omega, fun g => ?_, fun n => ?_⟩
      · have e1 : (s.extract 0 k).data.toList = l.take k := by
          rw [ByteArray.data_extract, Array.toList_extract, List.extract_eq_take_drop, hl]; simp
        have e2 : (s.extract (k + 1) s.size).data.toList = l.drop (k + 1) := by
          rw [ByteArray.data_extract, Array.toList_extract, List.extract_eq_take_drop, hl, hsz]
          apply List.take_of_length_le
          rw [List.length_drop]; omega
        rw [hl, e1, e2, if_pos rfl, ← code_dot _ _ _ h4, ← h3]
      have g := index1_ev n s 46 l hl
      simp only [strP, intP] at g
      rw [hk] at g
      rw [callA_fn rfl Tryz.func114 rfl rfl rfl]
      simp [Tryz.f114, g, hz, hw, show (k : Int) ≤ s.size by omega, show (k : Int) + 1 ≤ s.size by omega, show 0 ≤ (k : Int) + 1 by omega]
      refine (drawK_of (by kernel_rfl)).trans ?_
      simp [evOpD, hw, hz, show (k : Int) ≤ s.size by omega, show (k : Int) + 1 ≤ s.size by omega, show 0 ≤ (k : Int) + 1 by omega]
  obtain ⟨x, y, b, h1, h2, hx, g2⟩ := g2
  refine ⟨x, y, b, h1, h2, hx, fun n => ?_⟩
  have g2 := g2 n
  rw [callA_fn rfl Tryz.func80 rfl rfl rfl]
  simp [Tryz.f80, strP, g2]
end Go.Proofs.YtlhjljplfmmoaaaGreatDoor.Ev
namespace Go.Proofs.YtlhjljplfmmoaaaGreatDoor.Ev
open Go
set_option linter.unusedSimpArgs false
set_option linter.unusedVariables false
set_option maxRecDepth 10000
set_option maxHeartbeats 4000000
attribute [local simp] sz119 ze119 Tryz.underlying119 indexAddrTV
def segB (a b c d e : ByteArray) (k : Int) : Bool := decide (1 ≤ k) && (wordB a.data.toList && (decide (k ≤ 1) || wordB b.data.toList && (decide (k ≤ 2) || wordB c.data.toList && (decide (k ≤ 3) || wordB d.data.toList && (decide (k ≤ 4) || wordB e.data.toList)))))
theorem segments_x (s : ByteArray) (hs : s.size ≤ 9223372036854775807) :
    ∃ a b c d e k, 0 ≤ k ∧ k ≤ 5 ∧ codeB s.data.toList 1 0 = segB a b c d e k ∧ ∀ m, (ev Tryz.prog tab (m + 12)).callA 97 [strP s] = some [.agg [strP a, strP b, strP c, strP d, strP e], intP k] := by
  obtain ⟨a, y, b, _, hy, H1, g1⟩ := cut_x s hs
  obtain ⟨a2, y2, b2, _, hy2, H2, g2⟩ := cut_x y (by omega)
  obtain ⟨a3, y3, b3, _, hy3, H3, g3⟩ := cut_x y2 (by omega)
  obtain ⟨a4, y4, b4, _, hy4, H4, g4⟩ := cut_x y3 (by omega)
  obtain ⟨a5, y5, b5, _, hy5, H5, g5⟩ := cut_x y4 (by omega)
  have z0 : IntKind.i64.wrap 1 = 1 := by kernel_rfl
  have z1 : IntKind.i64.wrap 2 = 2 := by kernel_rfl
  have z2 : IntKind.i64.wrap 3 = 3 := by kernel_rfl
  have z3 : IntKind.i64.wrap 4 = 4 := by kernel_rfl
  have z4 : IntKind.i64.wrap 5 = 5 := by kernel_rfl
  cases b with
  | false =>
    refine ⟨a, ⟨#[]⟩, ⟨#[]⟩, ⟨#[]⟩, ⟨#[]⟩, 1, by decide, by decide, ?_, fun m => ?_⟩
    · rw [H1 1]; simp [segB, H2, H3, H4, H5, code_deep]
    have g1 := g1 (m + 6); have g2 := g2 (m + 6); have g3 := g3 (m + 6); have g4 := g4 (m + 6); have g5 := g5 (m + 6)
    simp only [strP] at g1 g2 g3 g4 g5
    rw [callA_fn rfl Tryz.func97 rfl rfl rfl]
    simp [Tryz.f97, strP, intP, loop_succ, g1, z0]
  | true =>
    cases b2 with
    | false =>
      refine ⟨a, a2, ⟨#[]⟩, ⟨#[]⟩, ⟨#[]⟩, 2, by decide, by decide, ?_, fun m => ?_⟩
      · rw [H1 1]; simp [segB, H2, H3, H4, H5, code_deep]
      have g1 := g1 (m + 6); have g2 := g2 (m + 6); have g3 := g3 (m + 6); have g4 := g4 (m + 6); have g5 := g5 (m + 6)
      simp only [strP] at g1 g2 g3 g4 g5
      rw [callA_fn rfl Tryz.func97 rfl rfl rfl]
      simp [Tryz.f97, strP, intP, loop_succ, g1, g2, z0, z1]
    | true =>
      cases b3 with
      | false =>
        refine ⟨a, a2, a3, ⟨#[]⟩, ⟨#[]⟩, 3, by decide, by decide, ?_, fun m => ?_⟩
        · rw [H1 1]; simp [segB, H2, H3, H4, H5, code_deep]
        have g1 := g1 (m + 6); have g2 := g2 (m + 6); have g3 := g3 (m + 6); have g4 := g4 (m + 6); have g5 := g5 (m + 6)
        simp only [strP] at g1 g2 g3 g4 g5
        rw [callA_fn rfl Tryz.func97 rfl rfl rfl]
        simp [Tryz.f97, strP, intP, loop_succ, g1, g2, g3, z0, z1, z2]
      | true =>
        cases b4 with
        | false =>
          refine ⟨a, a2, a3, a4, ⟨#[]⟩, 4, by decide, by decide, ?_, fun m => ?_⟩
          · rw [H1 1]; simp [segB, H2, H3, H4, H5, code_deep]
          have g1 := g1 (m + 6); have g2 := g2 (m + 6); have g3 := g3 (m + 6); have g4 := g4 (m + 6); have g5 := g5 (m + 6)
          simp only [strP] at g1 g2 g3 g4 g5
          rw [callA_fn rfl Tryz.func97 rfl rfl rfl]
          simp [Tryz.f97, strP, intP, loop_succ, g1, g2, g3, g4, z0, z1, z2, z3]
        | true =>
          cases b5 with
          | false =>
            refine ⟨a, a2, a3, a4, a5, 5, by decide, by decide, ?_, fun m => ?_⟩
            · rw [H1 1]; simp [segB, H2, H3, H4, H5, code_deep]
            have g1 := g1 (m + 6); have g2 := g2 (m + 6); have g3 := g3 (m + 6); have g4 := g4 (m + 6); have g5 := g5 (m + 6)
            simp only [strP] at g1 g2 g3 g4 g5
            rw [callA_fn rfl Tryz.func97 rfl rfl rfl]
            simp [Tryz.f97, strP, intP, loop_succ, g1, g2, g3, g4, g5, z0, z1, z2, z3, z4]
          | true =>
            refine ⟨a, a2, a3, a4, a5, 0, by decide, by decide, ?_, fun m => ?_⟩
            · rw [H1 1]; simp [segB, H2, H3, H4, H5, code_deep]
            have g1 := g1 (m + 6); have g2 := g2 (m + 6); have g3 := g3 (m + 6); have g4 := g4 (m + 6); have g5 := g5 (m + 6)
            simp only [strP] at g1 g2 g3 g4 g5
            rw [callA_fn rfl Tryz.func97 rfl rfl rfl]
            simp [Tryz.f97, strP, intP, loop_succ, g1, g2, g3, g4, g5, z0, z1, z2, z3, z4]
theorem content_x (s : ByteArray) (hs : s.size ≤ 9223372036854775807) (m : Nat) : (ev Tryz.prog tab (m + 15)).callA 68 [strP s] = some [.val (.bool (decide (s.size ≤ 24) && codeB s.data.toList 1 0))] := by
  by_cases g1 : 24 < (s.size : Int)
  · rw [callA_fn rfl Tryz.func68 rfl rfl rfl]
    simp [Tryz.f68, strP, g1, show ¬ s.size ≤ 24 by omega]
  have g2 : decide (s.size ≤ 24) = true := decide_eq_true (by omega)
  rw [g2, Bool.true_and]
  obtain ⟨a, b, c, d, e, k, h0, h5, H, g⟩ := segments_x s hs
  rw [H]
  have g := g (m + 2)
  have wa := word_ev (m + 13) a _ rfl (by omega)
  have wb := word_ev (m + 13) b _ rfl (by omega)
  have wc := word_ev (m + 13) c _ rfl (by omega)
  have wd := word_ev (m + 13) d _ rfl (by omega)
  have we := word_ev (m + 13) e _ rfl (by omega)
  have z0 : IntKind.i64.wrap 1 = 1 := by kernel_rfl
  have z1 : IntKind.i64.wrap 2 = 2 := by kernel_rfl
  have z2 : IntKind.i64.wrap 3 = 3 := by kernel_rfl
  have z3 : IntKind.i64.wrap 4 = 4 := by kernel_rfl
  have z4 : IntKind.i64.wrap 5 = 5 := by kernel_rfl
  have hk : k = 0 ∨ k = 1 ∨ k = 2 ∨ k = 3 ∨ k = 4 ∨ k = 5 := by omega
  clear H
  unfold segB
  generalize wordB a.data.toList = va at *
  generalize wordB b.data.toList = vb at *
  generalize wordB c.data.toList = vc at *
  generalize wordB d.data.toList = vd at *
  generalize wordB e.data.toList = ve at *
  simp only [strP, intP] at g wa wb wc wd we
  rw [callA_fn rfl Tryz.func68 rfl rfl rfl]
  rcases hk with rfl | rfl | rfl | rfl | rfl | rfl
  · simp [Tryz.f68, strP, g1, g, loop_succ, z0, z1, z2, z3, z4]
  · cases va with
    | false => simp [Tryz.f68, strP, g1, g, loop_succ, z0, z1, z2, z3, z4, wa, wb, wc, wd, we]
    | true =>
      simp [Tryz.f68, strP, g1, g, loop_succ, z0, z1, z2, z3, z4, wa, wb, wc, wd, we]
  · cases va with
    | false => simp [Tryz.f68, strP, g1, g, loop_succ, z0, z1, z2, z3, z4, wa, wb, wc, wd, we]
    | true =>
      cases vb with
      | false => simp [Tryz.f68, strP, g1, g, loop_succ, z0, z1, z2, z3, z4, wa, wb, wc, wd, we]
      | true =>
        simp [Tryz.f68, strP, g1, g, loop_succ, z0, z1, z2, z3, z4, wa, wb, wc, wd, we]
  · cases va with
    | false => simp [Tryz.f68, strP, g1, g, loop_succ, z0, z1, z2, z3, z4, wa, wb, wc, wd, we]
    | true =>
      cases vb with
      | false => simp [Tryz.f68, strP, g1, g, loop_succ, z0, z1, z2, z3, z4, wa, wb, wc, wd, we]
      | true =>
        cases vc with
        | false => simp [Tryz.f68, strP, g1, g, loop_succ, z0, z1, z2, z3, z4, wa, wb, wc, wd, we]
        | true =>
          simp [Tryz.f68, strP, g1, g, loop_succ, z0, z1, z2, z3, z4, wa, wb, wc, wd, we]
  · cases va with
    | false => simp [Tryz.f68, strP, g1, g, loop_succ, z0, z1, z2, z3, z4, wa, wb, wc, wd, we]
    | true =>
      cases vb with
      | false => simp [Tryz.f68, strP, g1, g, loop_succ, z0, z1, z2, z3, z4, wa, wb, wc, wd, we]
      | true =>
        cases vc with
        | false => simp [Tryz.f68, strP, g1, g, loop_succ, z0, z1, z2, z3, z4, wa, wb, wc, wd, we]
        | true =>
          cases vd with
          | false => simp [Tryz.f68, strP, g1, g, loop_succ, z0, z1, z2, z3, z4, wa, wb, wc, wd, we]
          | true =>
            simp [Tryz.f68, strP, g1, g, loop_succ, z0, z1, z2, z3, z4, wa, wb, wc, wd, we]
  · cases va with
    | false => simp [Tryz.f68, strP, g1, g, loop_succ, z0, z1, z2, z3, z4, wa, wb, wc, wd, we]
    | true =>
      cases vb with
      | false => simp [Tryz.f68, strP, g1, g, loop_succ, z0, z1, z2, z3, z4, wa, wb, wc, wd, we]
      | true =>
        cases vc with
        | false => simp [Tryz.f68, strP, g1, g, loop_succ, z0, z1, z2, z3, z4, wa, wb, wc, wd, we]
        | true =>
          cases vd with
          | false => simp [Tryz.f68, strP, g1, g, loop_succ, z0, z1, z2, z3, z4, wa, wb, wc, wd, we]
          | true =>
            cases ve with
            | false => simp [Tryz.f68, strP, g1, g, loop_succ, z0, z1, z2, z3, z4, wa, wb, wc, wd, we]
            | true =>
              simp [Tryz.f68, strP, g1, g, loop_succ, z0, z1, z2, z3, z4, wa, wb, wc, wd, we]
theorem contB_eq (s : ByteArray) (hs : s.size ≤ 9223372036854775807) : contB s = (decide (s.size ≤ 24) && codeB s.data.toList 1 0) := by
  have h1 := content_b s hs 0
  rw [content_x s hs 0] at h1
  have h2 := List.cons.inj (Option.some.inj h1)
  injection h2.1 with h3
  injection h3 with h4
  exact h4.symm
end Go.Proofs.YtlhjljplfmmoaaaGreatDoor.Ev
namespace Go.Proofs.YtlhjljplfmmoaaaGreatDoor.Ev
open Go
set_option linter.unusedSimpArgs false
set_option linter.unusedVariables false
set_option maxRecDepth 10000
set_option maxHeartbeats 4000000
theorem ranges_r (n : Nat) (it : It) : (ev Tryz.prog tab (n + 2)).callA 60 [it.pv] = some [.val (.bool (numbersB it))] := by
  obtain ⟨id, ver, kind, stem, opts, choices, val, tol, texts, pts, cont, fam, set, words, secs, assets, rub⟩ := it
  have w := within_r n
  simp only [intP] at w
  rw [callA_fn rfl Tryz.func60 rfl rfl rfl]
  simp [-frame, Tryz.f60, It.pv, w]
  repeat' ((first | refine test_cases ?_ ?_ | refine cond_cases ?_ ?_) <;> intro h <;> (try simp only [Bool.not_eq_true', Bool.not_eq_false'] at h) <;> simp [-frame, w, h])
  all_goals simp_all [numbersB]
theorem codeC_r (n : Nat) (s : ByteArray) (hs : s.size ≤ 9223372036854775807) (hn : 24 ≤ n) : (ev Tryz.prog tab (n + 1)).callA 93 [strP s] = some [.val (.bool (contB s))] := by
  rw [contB_eq s hs]; exact code_r n s _ rfl hs hn
theorem texts_r (n : Nat) (it : It) (hn : it.Fit n) (hm : it.Fit 9223372036854775807) (h24 : 24 ≤ n) : (ev Tryz.prog tab (n + 2)).callA 62 [it.pv] = some [.val (.bool (stringsB it))] := by
  obtain ⟨V, hV⟩ : ∃ V, V = stringsB it := ⟨_, rfl⟩
  rw [← hV]
  obtain ⟨id, ver, kind, stem, opts, choices, val, tol, texts, pts, cont, fam, set, words, secs, assets, rub⟩ := it
  obtain ⟨n1, n2, n3, n4, n5, n6, n7, n8⟩ := hn
  obtain ⟨m1, m2, m3, m4, m5, m6, m7, m8⟩ := hm
  simp only at n1 n2 n3 n4 n5 n6 n7 n8 m1 m2 m3 m4 m5 m6 m7 m8
  unfold stringsB at hV
  simp only at hV
  have hq : ∀ z : ByteArray, strP z = .val (.string z) := fun _ => rfl
  have wstem := printable_r n stem _ rfl 2000 true m1 n1
  have wcont := codeC_r n cont m2 h24
  simp only [hq, intP] at wstem wcont
  rw [callA_fn rfl Tryz.func62 rfl rfl rfl]
  cases hb0 : printB stem.data.toList 2000 true with
  | false =>
    rw [hb0] at wstem hV
    simp only [Bool.false_and, Bool.and_false] at hV
    simp [-frame, Tryz.f62, It.pv, hq, wstem, hV]
  | true =>
    rw [hb0] at wstem hV
    rw [Bool.true_and] at hV
    simp [-frame, Tryz.f62, It.pv, hq, wstem]
    refine loop_rule (fun d st => ∃ (i : Nat) (a : List (Nat × TV)), st = { tm := frameOf 36 a, sus := [], so := [(1, .box [TV.val (.int .i64 id), TV.val (.int .i64 ver), .val (.int .i64 kind), .val (.string stem), .sl (opts.map strP), .sl (choices.map intP), .val (.int .i64 val), .val (.int .i64 tol), .sl (texts.map strP), .val (.int .i64 pts), .val (.string cont), .val (.int .i64 fam), .val (.int .i64 set), .val (.int .i64 words), .val (.int .i64 secs), .sl (assets.map intP), .val (.int .i64 rub)])] } ∧ look a 1 = .ptr 1 0 0 ∧ look a 2 = .val (.bool false) ∧ look a 12 = .sl (opts.map strP) ∧ look a 13 = .val (.int .i64 opts.length) ∧ look a 14 = .val (.int .i64 i) ∧ d = opts.length - i ∧ i ≤ opts.length ∧ (opts.take i).all optB = true) ?_ _ opts.length _ (by omega) ⟨0, _, rfl, by simp, by simp, by simp [hq], by simp, by simp, rfl, by omega, by simp⟩
    rintro d st m ⟨i, a, rfl, h1, h2, h12, h13, h14, rfl, hi, hall⟩ ih
    by_cases hlt : i < opts.length
    · obtain ⟨z, hc⟩ : ∃ z, opts[i]? = some z := ⟨opts[i], by simp⟩
      have hw := wrap_succ hlt m3
      have hd : decide ((i : Int) < opts.length) = true := by simp [hlt]
      have w := printable_r n z _ rfl 200 false (m4 z (List.mem_of_getElem? hc)) (n4 z (List.mem_of_getElem? hc))
      simp only [hq, intP] at w
      cases hb : optB z with
      | true =>
        unfold optB at hb
        rw [hb] at w
        simp [-frame, -getElem?_pos, h1, h2, h12, h13, h14, hd, hc, hlt, hw, hq, w]
        exact ih _ _ (by omega) ⟨i + 1, _, rfl, by simp [h1], by simp [h2], by simp [h12], by simp [h13], by simp, rfl, by omega, all_take hall hc hb⟩
      | false =>
        rw [all_not hc hb, Bool.false_and] at hV
        unfold optB at hb
        rw [hb] at w
        simp [-frame, -getElem?_pos, h1, h2, h12, h13, h14, hd, hc, hlt, hw, hq, w, hV]
    · obtain rfl : i = opts.length := by omega
      rw [List.take_length] at hall
      rw [hall, Bool.true_and] at hV
      simp [-frame, h1, h2, h12, h13, h14]
      clear ih
      refine loop_rule (fun d st => ∃ (i : Nat) (a : List (Nat × TV)), st = { tm := frameOf 36 a, sus := [], so := [(1, .box [TV.val (.int .i64 id), TV.val (.int .i64 ver), .val (.int .i64 kind), .val (.string stem), .sl (opts.map strP), .sl (choices.map intP), .val (.int .i64 val), .val (.int .i64 tol), .sl (texts.map strP), .val (.int .i64 pts), .val (.string cont), .val (.int .i64 fam), .val (.int .i64 set), .val (.int .i64 words), .val (.int .i64 secs), .sl (assets.map intP), .val (.int .i64 rub)])] } ∧ look a 1 = .ptr 1 0 0 ∧ look a 2 = .val (.bool false) ∧ look a 23 = .sl (texts.map strP) ∧ look a 24 = .val (.int .i64 texts.length) ∧ look a 25 = .val (.int .i64 i) ∧ d = texts.length - i ∧ i ≤ texts.length ∧ (texts.take i).all optB = true) ?_ _ texts.length _ (by omega) ⟨0, _, rfl, by simp [h1], by simp [h2], by simp, by simp, by simp, rfl, by omega, by simp⟩
      clear h1 h2 h12 h13 h14
      rintro d st m ⟨i, a, rfl, h1, h2, h12, h13, h14, rfl, hi, hall2⟩ ih
      by_cases hlt : i < texts.length
      · obtain ⟨z, hc⟩ : ∃ z, texts[i]? = some z := ⟨texts[i], by simp⟩
        have hw := wrap_succ hlt m6
        have hd : decide ((i : Int) < texts.length) = true := by simp [hlt]
        have w := printable_r n z _ rfl 200 false (m7 z (List.mem_of_getElem? hc)) (n7 z (List.mem_of_getElem? hc))
        simp only [hq, intP] at w
        cases hb : optB z with
        | true =>
          unfold optB at hb
          rw [hb] at w
          simp [-frame, -getElem?_pos, h1, h2, h12, h13, h14, hd, hc, hlt, hw, hq, w]
          exact ih _ _ (by omega) ⟨i + 1, _, rfl, by simp [h1], by simp [h2], by simp [h12], by simp [h13], by simp, rfl, by omega, all_take hall2 hc hb⟩
        | false =>
          rw [all_not hc hb, Bool.false_and] at hV
          unfold optB at hb
          rw [hb] at w
          simp [-frame, -getElem?_pos, h1, h2, h12, h13, h14, hd, hc, hlt, hw, hq, w, hV]
      · obtain rfl : i = texts.length := by omega
        rw [List.take_length] at hall2
        rw [hall2, Bool.true_and] at hV
        simp [-frame, h1, h2, h12, h13, h14, wcont, hV]
end Go.Proofs.YtlhjljplfmmoaaaGreatDoor.Ev
