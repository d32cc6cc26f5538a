/- Smaller functions of the item check: what they compute. -/
import Derived.Test.YtlhjljplfmmoaaaGreatDoorSym
namespace Go.Proofs.YtlhjljplfmmoaaaGreatDoor.Ev
open Go
set_option linter.unusedSimpArgs false
set_option linter.unusedVariables false
set_option maxRecDepth 10000
set_option maxHeartbeats 4000000
def withinB (a b c : Int) : Bool := decide (b ≤ a) && decide (a ≤ c)
theorem within_ev (n : Nat) (a b c : Int) : (ev Tryz.prog tab (n + 1)).callA 40 [intP a, intP b, intP c] = some [.val (.bool (withinB a b c))] := by
  rw [callA_fn rfl Tryz.func40 rfl rfl rfl]
  simp [Tryz.f40, withinB, intP]
  by_cases h : b ≤ a <;> simp [h]
def printC (feeds : Bool) (c : UInt8) : Bool := (!decide ((c.toNat : Int) < 32) && !decide (126 < (c.toNat : Int))) || (feeds && decide ((c.toNat : Int) = 10))
def printB (l : List UInt8) (most : Int) (feeds : Bool) : Bool := l.all (printC feeds) && withinB l.length 1 most
theorem printable_ev (n : Nat) (s : ByteArray) (l : List UInt8) (hl : s.data.toList = l) (most : Int) (feeds : Bool) (hs : s.size ≤ 9223372036854775807) (hn : s.size ≤ n) :
    (ev Tryz.prog tab (n + 2)).callA 67 [strP s, intP most, .val (.bool feeds)] = some [.val (.bool (printB l most feeds))] := by
  have w := within_ev n
  simp only [intP] at w
  have hsz := size_l hl
  rw [callA_fn rfl Tryz.func67 rfl rfl rfl]
  simp [Tryz.f67, intP, strP]
  refine loop_rule (fun d st => ∃ (i : Nat) (j3 j4 j5 j8 j9 j10 j11 j12 j13 j14 j15 j16 j17 j18 j19 j20 j21 j22 j23 j24 j25 j26 j27 j28 j29 j30 j31 j32 j33 j34 j35 j36 j37 : TV), st = { tm := [.val (.string s), .val (.int .i64 most), .val (.bool feeds), j3, j4, j5, .val (.bool false), .val (.int .i64 i), j8, j9, j10, j11, j12, j13, j14, j15, j16, j17, j18, j19, j20, j21, j22, j23, j24, j25, j26, j27, j28, j29, j30, j31, j32, j33, j34, j35, j36, j37], sus := [], so := [] } ∧ d = s.size - i ∧ i ≤ s.size ∧ (l.take i).all (printC feeds) = true) ?_ _ s.size _ (by omega) ⟨0, _, _, _, _, _, _, _, _, _, _, _, _, _, _, _, _, _, _, _, _, _, _, _, _, _, _, _, _, _, _, _, _, _, rfl, rfl, by omega, by simp⟩
  rintro d st m ⟨i, j3, j4, j5, j8, j9, j10, j11, j12, j13, j14, j15, j16, j17, j18, j19, j20, j21, j22, j23, j24, j25, j26, j27, j28, j29, j30, j31, j32, j33, j34, j35, j36, j37, rfl, rfl, hi, hall⟩ ih
  by_cases hlt : i < s.size
  · obtain ⟨c, hc⟩ : ∃ c, l[i]? = some c := ⟨l[i], by simp⟩
    have hc' : s[i]? = some c := by rw [get_l hl, hc]
    have hw := wrap_succ hlt hs
    have hd : decide ((i : Int) < s.size) = true := by simp [hlt]
    by_cases h1 : (c.toNat : Int) < 32 <;> by_cases h2 : 126 < (c.toNat : Int) <;> cases feeds <;> by_cases h4 : (c.toNat : Int) = 10 <;> simp [-getElem?_pos, hd, hc', hlt, hw, h1, h2, h4]
    all_goals first
      | omega
      | exact ih _ _ (by omega) ⟨i + 1, _, _, _, _, _, _, _, _, _, _, _, _, _, _, _, _, _, _, _, _, _, _, _, _, _, _, _, _, _, _, _, _, _, rfl, rfl, by omega, all_take hall hc (by simp [printC, h1, h2, h4])⟩
      | (unfold printB; rw [all_not hc (by simp [printC, h1, h2, h4])]; rfl)
      | trace_state
  · obtain rfl : i = s.size := by omega
    rw [hsz, List.take_length] at hall
    simp [w, printB, hall, hsz]
end Go.Proofs.YtlhjljplfmmoaaaGreatDoor.Ev
namespace Go.Proofs.YtlhjljplfmmoaaaGreatDoor.Ev
open Go
set_option linter.unusedSimpArgs false
set_option linter.unusedVariables false
set_option maxRecDepth 10000
set_option maxHeartbeats 4000000
def okAt (l : List UInt8) (i : Nat) : Bool := match l[i]? with
  | some c => Kn.alnum c || (decide (c = 32) && decide (0 < i) && decide (i + 1 < l.length) && !decide (l[i - 1]? = some 32))
  | none => true
def normB (l : List UInt8) : Bool := (List.range l.length).all (okAt l) && decide (0 < l.length)
theorem range_all {p : Nat → Bool} {i : Nat} (h : (List.range i).all p = true) (hp : p i = true) : (List.range (i + 1)).all p = true := by
  rw [List.range_succ, List.all_append, h]; simp [hp]
theorem range_not {p : Nat → Bool} {i n : Nat} (hi : i < n) (hp : p i = false) : (List.range n).all p = false := by
  rw [List.all_eq_false]; exact ⟨i, List.mem_range.2 hi, by simp [hp]⟩
theorem byte_cases (c : Int) : (c < 48 ∧ c ≠ 32) ∨ c = 32 ∨ (48 ≤ c ∧ c ≤ 57) ∨ (57 < c ∧ c < 97) ∨ (97 ≤ c ∧ c ≤ 122) ∨ 122 < c := by omega
theorem byte_32 {c : UInt8} (h : (c.toNat : Int) = 32) : c = 32 := by
  apply UInt8.toNat_inj.1; show c.toNat = 32; omega
theorem normalized_ev (n : Nat) (s : ByteArray) (l : List UInt8) (hl : s.data.toList = l) (hs : s.size ≤ 9223372036854775807) (hn : s.size ≤ n) :
    (ev Tryz.prog tab (n + 1)).callA 102 [strP s] = some [.val (.bool (normB l))] := by
  have hsz := size_l hl
  rw [callA_fn rfl Tryz.func102 rfl rfl rfl]
  simp [Tryz.f102, strP]
  refine loop_rule (fun d st => ∃ (i : Nat) (j1 j4 j5 j6 j7 j8 j9 j10 j11 j12 j13 j14 j15 j16 j17 j18 j19 j20 j21 j22 j23 j24 j25 j26 j27 j28 j29 j30 j31 j32 j33 j34 j35 j36 j37 j38 j39 j40 j41 j42 j43 j44 j45 j46 j47 j48 j49 j50 j51 j52 : TV), st = { tm := [.val (.string s), j1, .val (.bool false), .val (.int .i64 i), j4, j5, j6, j7, j8, j9, j10, j11, j12, j13, j14, j15, j16, j17, j18, j19, j20, j21, j22, j23, j24, j25, j26, j27, j28, j29, j30, j31, j32, j33, j34, j35, j36, j37, j38, j39, j40, j41, j42, j43, j44, j45, j46, j47, j48, j49, j50, j51, j52], sus := [], so := [] } ∧ d = s.size - i ∧ i ≤ s.size ∧ (List.range i).all (okAt l) = true) ?_ _ s.size _ (by omega) ⟨0, _, _, _, _, _, _, _, _, _, _, _, _, _, _, _, _, _, _, _, _, _, _, _, _, _, _, _, _, _, _, _, _, _, _, _, _, _, _, _, _, _, _, _, _, _, _, _, _, _, _, rfl, rfl, by omega, by simp⟩
  rintro d st m ⟨i, j1, j4, j5, j6, j7, j8, j9, j10, j11, j12, j13, j14, j15, j16, j17, j18, j19, j20, j21, j22, j23, j24, j25, j26, j27, j28, j29, j30, j31, j32, j33, j34, j35, j36, j37, j38, j39, j40, j41, j42, j43, j44, j45, j46, j47, j48, j49, j50, j51, j52, rfl, rfl, hi, hall⟩ ih
  by_cases hlt : i < s.size
  · obtain ⟨c, hc⟩ : ∃ c, l[i]? = some c := ⟨l[i], by simp⟩
    have hc' : s[i]? = some c := by rw [get_l hl, hc]
    have hw := wrap_succ hlt hs
    have hd : decide ((i : Int) < s.size) = true := by simp [hlt]
    have hno : okAt l i = false → normB l = false := fun h => by unfold normB; rw [range_not (by omega) h]; rfl
    have hok : okAt l i = (Kn.alnum c || (decide (c = 32) && decide (0 < i) && decide (i + 1 < l.length) && !decide (l[i - 1]? = some 32))) := by unfold okAt; rw [hc]
    rcases byte_cases (c.toNat : Int) with h | h | h | h | h | h
    · have e1 : ¬ (97 : Int) ≤ c.toNat := by omega
      have e2 : ¬ (48 : Int) ≤ c.toNat := by omega
      have e3 : ¬ (c.toNat : Int) = 32 := by omega
      have ha : Kn.alnum c = false := by simp [Kn.alnum]; omega
      have hc32 : c ≠ 32 := by rintro rfl; exact e3 rfl
      simp [-getElem?_pos, hd, hc', hlt, hw, e1, e2, e3]
      exact hno (by rw [hok, ha]; simp [hc32])
    · have e1 : ¬ (97 : Int) ≤ 32 := by omega
      have e2 : ¬ (48 : Int) ≤ 32 := by omega
      have hc32 := byte_32 h
      have ha : Kn.alnum c = false := by simp [Kn.alnum]; omega
      rw [ha, hc32] at hok
      by_cases h0 : 0 < i
      · obtain ⟨p, hp⟩ : ∃ p, l[i - 1]? = some p := ⟨l[i - 1], by simp⟩
        have hp' : s[i - 1]? = some p := by rw [get_l hl, hp]
        have hwm : IntKind.i64.wrap ((i : Int) - 1) = ((i - 1 : Nat) : Int) := by rw [wrap_i64 (by omega) (by omega)]; omega
        by_cases h1 : i + 1 < s.size
        · by_cases h2 : (p.toNat : Int) = 32
          · have := byte_32 h2
            subst this
            simp [-getElem?_pos, hd, hc', hlt, hw, h, h0, h1, h2, hwm, hp', show (i : Int) + 1 < s.size by omega]
            exact hno (by rw [hok, hp]; simp)
          · have h3 : p ≠ 32 := by rintro rfl; exact h2 rfl
            simp [-getElem?_pos, hd, hc', hlt, hw, h, h0, h1, h2, hwm, hp', show (i : Int) + 1 < s.size by omega]
            exact ih _ _ (by omega) ⟨i + 1, _, _, _, _, _, _, _, _, _, _, _, _, _, _, _, _, _, _, _, _, _, _, _, _, _, _, _, _, _, _, _, _, _, _, _, _, _, _, _, _, _, _, _, _, _, _, _, _, _, _, rfl, rfl, by omega, range_all hall (by rw [hok, hp]; simp [h0, h3]; omega)⟩
        · simp [-getElem?_pos, hd, hc', hlt, hw, h, h0, h1, hwm, hp', show ¬ (i : Int) + 1 < s.size by omega]
          exact hno (by rw [hok]; simp; omega)
      · simp [-getElem?_pos, hd, hc', hlt, hw, h, h0]
        exact hno (by rw [hok]; simp; omega)
    · have e1 : ¬ (97 : Int) ≤ c.toNat := by omega
      have ha : Kn.alnum c = true := by simp [Kn.alnum]; omega
      simp [-getElem?_pos, hd, hc', hlt, hw, e1, h.1, h.2]
      exact ih _ _ (by omega) ⟨i + 1, _, _, _, _, _, _, _, _, _, _, _, _, _, _, _, _, _, _, _, _, _, _, _, _, _, _, _, _, _, _, _, _, _, _, _, _, _, _, _, _, _, _, _, _, _, _, _, _, _, _, rfl, rfl, by omega, range_all hall (by rw [hok, ha]; rfl)⟩
    · have e1 : ¬ (97 : Int) ≤ c.toNat := by omega
      have e2 : (48 : Int) ≤ c.toNat := by omega
      have e3 : ¬ (c.toNat : Int) ≤ 57 := by omega
      have e4 : ¬ (c.toNat : Int) = 32 := by omega
      have ha : Kn.alnum c = false := by simp [Kn.alnum]; omega
      have hc32 : c ≠ 32 := by rintro rfl; exact e4 rfl
      simp [-getElem?_pos, hd, hc', hlt, hw, e1, e2, e3, e4]
      exact hno (by rw [hok, ha]; simp [hc32])
    · have ha : Kn.alnum c = true := by simp [Kn.alnum]; omega
      simp [-getElem?_pos, hd, hc', hlt, hw, h.1, h.2]
      exact ih _ _ (by omega) ⟨i + 1, _, _, _, _, _, _, _, _, _, _, _, _, _, _, _, _, _, _, _, _, _, _, _, _, _, _, _, _, _, _, _, _, _, _, _, _, _, _, _, _, _, _, _, _, _, _, _, _, _, _, rfl, rfl, by omega, range_all hall (by rw [hok, ha]; rfl)⟩
    · have e1 : (97 : Int) ≤ c.toNat := by omega
      have e2 : (48 : Int) ≤ c.toNat := by omega
      have e3 : ¬ (c.toNat : Int) ≤ 57 := by omega
      have e5 : ¬ (c.toNat : Int) ≤ 122 := by omega
      have e4 : ¬ (c.toNat : Int) = 32 := by omega
      have ha : Kn.alnum c = false := by simp [Kn.alnum]; omega
      have hc32 : c ≠ 32 := by rintro rfl; exact e4 rfl
      simp [-getElem?_pos, hd, hc', hlt, hw, e1, e2, e3, e4, e5]
      exact hno (by rw [hok, ha]; simp [hc32])
  · obtain rfl : i = s.size := by omega
    rw [hsz] at hall
    simp [normB, hall, hsz]
end Go.Proofs.YtlhjljplfmmoaaaGreatDoor.Ev
namespace Go.Proofs.YtlhjljplfmmoaaaGreatDoor.Ev
open Go
set_option linter.unusedSimpArgs false
set_option linter.unusedVariables false
set_option maxRecDepth 10000
set_option maxHeartbeats 4000000
def riseAt (zs : List Int) (a b : Int) (i : Nat) : Bool := match zs[i]? with
  | some z => withinB z a b && (decide (i = 0) || match zs[i - 1]? with | some y => !decide (z ≤ y) | none => true)
  | none => true
def risingB (zs : List Int) (a b : Int) : Bool := (List.range zs.length).all (riseAt zs a b)
theorem rising_ev (n : Nat) (zs : List Int) (a b : Int) (hs : zs.length ≤ 9223372036854775807) (hn : zs.length ≤ n) :
    (ev Tryz.prog tab (n + 2)).callA 43 [.sl (zs.map intP), intP a, intP b] = some [.val (.bool (risingB zs a b))] := by
  have w := within_ev n
  simp only [intP] at w
  rw [callA_fn rfl Tryz.func43 rfl rfl rfl]
  have hq : ∀ z : Int, intP z = .val (.int .i64 z) := fun _ => rfl
  simp [Tryz.f43, hq]
  refine loop_rule (fun d st => ∃ (i : Nat) (j3 j4 j5 j7 j8 j12 j13 j14 j15 j16 j17 j18 j19 j20 j21 j22 j23 j24 j25 j26 j27 j28 j29 j30 j31 j32 j33 j34 : TV), st = { tm := [.sl (zs.map intP), .val (.int .i64 a), .val (.int .i64 b), j3, j4, j5, .val (.bool false), j7, j8, .sl (zs.map intP), .val (.int .i64 zs.length), .val (.int .i64 i), j12, j13, j14, j15, j16, j17, j18, j19, j20, j21, j22, j23, j24, j25, j26, j27, j28, j29, j30, j31, j32, j33, j34], sus := [], so := [] } ∧ d = zs.length - i ∧ i ≤ zs.length ∧ (List.range i).all (riseAt zs a b) = true) ?_ _ zs.length _ (by omega) ⟨0, _, _, _, _, _, _, _, _, _, _, _, _, _, _, _, _, _, _, _, _, _, _, _, _, _, _, _, _, rfl, rfl, by omega, by simp⟩
  rintro d st m ⟨i, j3, j4, j5, j7, j8, j12, j13, j14, j15, j16, j17, j18, j19, j20, j21, j22, j23, j24, j25, j26, j27, j28, j29, j30, j31, j32, j33, j34, rfl, rfl, hi, hall⟩ ih
  by_cases hlt : i < zs.length
  · obtain ⟨z, hc⟩ : ∃ z, zs[i]? = some z := ⟨zs[i], by simp⟩
    have hw := wrap_succ hlt hs
    have hd : decide ((i : Int) < zs.length) = true := by simp [hlt]
    have hno : riseAt zs a b i = false → risingB zs a b = false := fun h => by unfold risingB; exact range_not hlt h
    have hok : riseAt zs a b i = (withinB z a b && (decide (i = 0) || match zs[i - 1]? with | some y => !decide (z ≤ y) | none => true)) := by unfold riseAt; rw [hc]
    by_cases hwi : withinB z a b = true
    · by_cases h0 : 0 < i
      · obtain ⟨y, hy⟩ : ∃ y, zs[i - 1]? = some y := ⟨zs[i - 1], by simp⟩
        have hwm : IntKind.i64.wrap ((i : Int) - 1) = ((i - 1 : Nat) : Int) := by rw [wrap_i64 (by omega) (by omega)]; omega
        have hlm : i - 1 < zs.length := by omega
        by_cases hzy : z ≤ y
        · simp [-getElem?_pos, hd, hc, hlt, hw, hq, w, hwi, h0, hwm, hy, hlm, hzy]
          exact hno (by rw [hok, hwi, hy]; simp [hzy]; omega)
        · simp [-getElem?_pos, hd, hc, hlt, hw, hq, w, hwi, h0, hwm, hy, hlm, hzy]
          exact ih _ _ (by omega) ⟨i + 1, _, _, _, _, _, _, _, _, _, _, _, _, _, _, _, _, _, _, _, _, _, _, _, _, _, _, _, _, rfl, rfl, by omega, range_all hall (by rw [hok, hwi, hy]; simp [hzy])⟩
      · obtain rfl : i = 0 := by omega
        simp [-getElem?_pos, hd, hc, hlt, hw, hq, w, hwi]
        exact ih _ _ (by omega) ⟨0 + 1, _, _, _, _, _, _, _, _, _, _, _, _, _, _, _, _, _, _, _, _, _, _, _, _, _, _, _, _, rfl, rfl, by omega, range_all hall (by rw [hok, hwi]; simp)⟩
    · simp at hwi
      simp [-getElem?_pos, hd, hc, hlt, hw, hq, w, hwi]
      exact hno (by rw [hok, hwi]; rfl)
  · obtain rfl : i = zs.length := by omega
    simp [risingB, hall]
end Go.Proofs.YtlhjljplfmmoaaaGreatDoor.Ev
namespace Go.Proofs.YtlhjljplfmmoaaaGreatDoor.Ev
open Go
set_option linter.unusedSimpArgs false
set_option linter.unusedVariables false
set_option maxRecDepth 10000
set_option maxHeartbeats 4000000
def strLe (a b : ByteArray) : Bool := Op.bytesLess a.toList b.toList || a.toList == b.toList
def textAt (ss : List ByteArray) (i : Nat) : Bool := match ss[i]? with
  | some s => normB s.data.toList && (decide (i = 0) || match ss[i - 1]? with | some y => !strLe s y | none => true)
  | none => true
def textsB (ss : List ByteArray) : Bool := (List.range ss.length).all (textAt ss) && decide (0 < ss.length)
theorem texts_ev (n : Nat) (ss : List ByteArray) (hs : ss.length ≤ 9223372036854775807) (hn : ss.length ≤ n) (hz : ∀ s, s ∈ ss → s.size ≤ 9223372036854775807 ∧ s.size ≤ n) :
    (ev Tryz.prog tab (n + 2)).callA 71 [.sl (ss.map strP)] = some [.val (.bool (textsB ss))] := by
  rw [callA_fn rfl Tryz.func71 rfl rfl rfl]
  have hq : ∀ z : ByteArray, strP z = .val (.string z) := fun _ => rfl
  simp [Tryz.f71, hq]
  refine loop_rule (fun d st => ∃ (i : Nat) (j1 j3 j4 j8 j9 j10 j11 j12 j13 j14 j15 j16 j17 j18 j19 j20 j21 j22 j23 j24 j25 j26 j27 j28 j29 j30 j31 : TV), st = { tm := [.sl (ss.map strP), j1, .val (.bool false), j3, j4, .sl (ss.map strP), .val (.int .i64 ss.length), .val (.int .i64 i), j8, j9, j10, j11, j12, j13, j14, j15, j16, j17, j18, j19, j20, j21, j22, j23, j24, j25, j26, j27, j28, j29, j30, j31], sus := [], so := [] } ∧ d = ss.length - i ∧ i ≤ ss.length ∧ (List.range i).all (textAt ss) = true) ?_ _ ss.length _ (by omega) ⟨0, _, _, _, _, _, _, _, _, _, _, _, _, _, _, _, _, _, _, _, _, _, _, _, _, _, _, _, rfl, rfl, by omega, by simp⟩
  rintro d st m ⟨i, j1, j3, j4, j8, j9, j10, j11, j12, j13, j14, j15, j16, j17, j18, j19, j20, j21, j22, j23, j24, j25, j26, j27, j28, j29, j30, j31, rfl, rfl, hi, hall⟩ ih
  by_cases hlt : i < ss.length
  · obtain ⟨z, hc⟩ : ∃ z, ss[i]? = some z := ⟨ss[i], by simp⟩
    have hw := wrap_succ hlt hs
    have hmem := hz z (List.mem_of_getElem? hc)
    have w := normalized_ev n z _ rfl hmem.1 hmem.2
    rw [hq] at w
    have hd : decide ((i : Int) < ss.length) = true := by simp [hlt]
    have hno : textAt ss i = false → textsB ss = false := fun h => by unfold textsB; rw [range_not hlt h]; rfl
    have hok : textAt ss i = (normB z.data.toList && (decide (i = 0) || match ss[i - 1]? with | some y => !strLe z y | none => true)) := by unfold textAt; rw [hc]
    cases hwi : normB z.data.toList with
    | true =>
      rw [hwi] at w hok
      by_cases h0 : 0 < i
      · obtain ⟨y, hy⟩ : ∃ y, ss[i - 1]? = some y := ⟨ss[i - 1], by simp⟩
        have hwm : IntKind.i64.wrap ((i : Int) - 1) = ((i - 1 : Nat) : Int) := by rw [wrap_i64 (by omega) (by omega)]; omega
        have hlm : i - 1 < ss.length := by omega
        have hzy : (Op.bytesLess z.toList y.toList || z.toList == y.toList) = strLe z y := rfl
        cases hb : strLe z y with
        | true =>
          rw [hb] at hzy
          simp [-getElem?_pos, -Bool.or_eq_true, hd, hc, hlt, hw, hq, w, h0, hwm, hy, hlm, hzy]
          exact hno (by rw [hok, hy]; simp [hb]; omega)
        | false =>
          rw [hb] at hzy
          simp [-getElem?_pos, -Bool.or_eq_true, hd, hc, hlt, hw, hq, w, h0, hwm, hy, hlm, hzy]
          exact ih _ _ (by omega) ⟨i + 1, _, _, _, _, _, _, _, _, _, _, _, _, _, _, _, _, _, _, _, _, _, _, _, _, _, _, _, rfl, rfl, by omega, range_all hall (by rw [hok, hy]; simp [hb])⟩
      · obtain rfl : i = 0 := by omega
        simp [-getElem?_pos, hd, hc, hlt, hw, hq, w]
        exact ih _ _ (by omega) ⟨0 + 1, _, _, _, _, _, _, _, _, _, _, _, _, _, _, _, _, _, _, _, _, _, _, _, _, _, _, _, rfl, rfl, by omega, range_all hall (by rw [hok]; simp)⟩
    | false =>
      rw [hwi] at w hok
      simp [-getElem?_pos, hd, hc, hlt, hw, hq, w]
      exact hno (by rw [hok]; rfl)
  · obtain rfl : i = ss.length := by omega
    simp [textsB, hall]
end Go.Proofs.YtlhjljplfmmoaaaGreatDoor.Ev
namespace Go.Proofs.YtlhjljplfmmoaaaGreatDoor.Ev
open Go
set_option linter.unusedSimpArgs false
set_option linter.unusedVariables false
set_option maxRecDepth 10000
set_option maxHeartbeats 4000000
def wc (c : UInt8) : Bool := !(decide ((c.toNat : Int) < 65) || decide (90 < (c.toNat : Int))) || !(decide ((c.toNat : Int) < 48) || decide (57 < (c.toNat : Int)))
def wordB (l : List UInt8) : Bool := decide (1 ≤ l.length) && decide (l.length ≤ 8) && l.all wc
theorem word_ev (n : Nat) (s : ByteArray) (l : List UInt8) (hl : s.data.toList = l) (hn : 8 ≤ n) :
    (ev Tryz.prog tab (n + 1)).callA 98 [strP s] = some [.val (.bool (wordB l))] := by
  have hsz := size_l hl
  rw [callA_fn rfl Tryz.func98 rfl rfl rfl]
  by_cases g1 : (s.size : Int) < 1
  · have : wordB l = false := by simp [wordB]; omega
    simp [Tryz.f98, strP, g1, this]
  by_cases g2 : 8 < (s.size : Int)
  · have : wordB l = false := by simp [wordB]; omega
    simp [Tryz.f98, strP, g1, g2, this]
  simp [Tryz.f98, strP, g1, g2]
  have hs : s.size ≤ 9223372036854775807 := by omega
  refine loop_rule (fun d st => ∃ (i : Nat) (j1 j3 j4 j5 j6 j7 j8 j9 j10 j11 j15 j16 j17 j18 j19 j20 j21 j22 j23 j24 j25 j26 j27 j28 j29 j30 j31 j32 j33 j34 j35 j36 j37 j38 j39 : TV), st = { tm := [.val (.string s), j1, .val (.bool false), j3, j4, j5, j6, j7, j8, j9, j10, j11, .val (.string s), .val (.int .i64 s.size), .val (.int .i64 i), j15, j16, j17, j18, j19, j20, j21, j22, j23, j24, j25, j26, j27, j28, j29, j30, j31, j32, j33, j34, j35, j36, j37, j38, j39], sus := [], so := [] } ∧ d = s.size - i ∧ i ≤ s.size ∧ (l.take i).all wc = true) ?_ _ s.size _ (by omega) ⟨0, _, _, _, _, _, _, _, _, _, _, _, _, _, _, _, _, _, _, _, _, _, _, _, _, _, _, _, _, _, _, _, _, _, _, _, rfl, rfl, by omega, by simp⟩
  rintro d st m ⟨i, j1, j3, j4, j5, j6, j7, j8, j9, j10, j11, j15, j16, j17, j18, j19, j20, j21, j22, j23, j24, j25, j26, j27, j28, j29, j30, j31, j32, j33, j34, j35, j36, j37, j38, j39, rfl, rfl, hi, hall⟩ ih
  by_cases hlt : i < s.size
  · obtain ⟨c, hc⟩ : ∃ c, l[i]? = some c := ⟨l[i], by simp⟩
    have hc' : s[i]? = some c := by rw [get_l hl, hc]
    have hw := wrap_succ hlt hs
    have hd : decide ((i : Int) < s.size) = true := by simp [hlt]
    have hno : wc c = false → wordB l = false := fun h => by unfold wordB; rw [all_not hc h]; simp
    have hreg : (c.toNat : Int) < 48 ∨ (48 ≤ (c.toNat : Int) ∧ (c.toNat : Int) ≤ 57) ∨ (57 < (c.toNat : Int) ∧ (c.toNat : Int) < 65) ∨ (65 ≤ (c.toNat : Int) ∧ (c.toNat : Int) ≤ 90) ∨ 90 < (c.toNat : Int) := by omega
    rcases hreg with h | h | h | h | h
    · have e1 : (c.toNat : Int) < 65 := by omega
      simp [-getElem?_pos, hd, hc', hlt, hw, h, e1]
      exact hno (by simp [wc, h, e1])
    · have e1 : (c.toNat : Int) < 65 := by omega
      have e2 : ¬ (c.toNat : Int) < 48 := by omega
      have e3 : ¬ 57 < (c.toNat : Int) := by omega
      simp [-getElem?_pos, hd, hc', hlt, hw, e1, e2, e3]
      exact ih _ _ (by omega) ⟨i + 1, _, _, _, _, _, _, _, _, _, _, _, _, _, _, _, _, _, _, _, _, _, _, _, _, _, _, _, _, _, _, _, _, _, _, _, rfl, rfl, by omega, all_take hall hc (by simp [wc, e1, e2, e3])⟩
    · have e2 : ¬ (c.toNat : Int) < 48 := by omega
      simp [-getElem?_pos, hd, hc', hlt, hw, h.1, h.2, e2]
      exact hno (by simp [wc, h.1, h.2])
    · have e1 : ¬ (c.toNat : Int) < 65 := by omega
      have e2 : ¬ 90 < (c.toNat : Int) := by omega
      simp [-getElem?_pos, hd, hc', hlt, hw, e1, e2]
      exact ih _ _ (by omega) ⟨i + 1, _, _, _, _, _, _, _, _, _, _, _, _, _, _, _, _, _, _, _, _, _, _, _, _, _, _, _, _, _, _, _, _, _, _, _, rfl, rfl, by omega, all_take hall hc (by simp [wc, e1, e2])⟩
    · have e1 : ¬ (c.toNat : Int) < 65 := by omega
      have e2 : ¬ (c.toNat : Int) < 48 := by omega
      have e3 : 57 < (c.toNat : Int) := by omega
      simp [-getElem?_pos, hd, hc', hlt, hw, h, e1, e2, e3]
      exact hno (by simp [wc, h, e1, e2, e3])
  · obtain rfl : i = s.size := by omega
    rw [hsz, List.take_length] at hall
    have : wordB l = true := by simp only [wordB, hall]; simp; omega
    simp [this]
end Go.Proofs.YtlhjljplfmmoaaaGreatDoor.Ev
