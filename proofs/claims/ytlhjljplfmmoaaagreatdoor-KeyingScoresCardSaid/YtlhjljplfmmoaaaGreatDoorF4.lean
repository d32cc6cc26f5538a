/- item.texts: what it computes. -/
import Derived.Test.YtlhjljplfmmoaaaGreatDoorF3
namespace Go.Proofs.YtlhjljplfmmoaaaGreatDoor.Ev
open Go
set_option linter.unusedSimpArgs false
set_option linter.unusedVariables false
set_option maxRecDepth 10000
set_option maxHeartbeats 4000000
def strLe (a b : ByteArray) : Bool := Op.bytesLess a.toList b.toList || a.toList == b.toList
def textAt (ss : List ByteArray) (i : Nat) : Bool := match ss[i]? with
  | some s => normB s.data.toList && (decide (i = 0) || match ss[i - 1]? with | some y => !strLe s y | none => true)
  | none => true
def textsB (ss : List ByteArray) : Bool := (List.range ss.length).all (textAt ss) && decide (0 < ss.length)
theorem texts_ev (n : Nat) (ss : List ByteArray) (hs : ss.length ≤ 9223372036854775807) (hn : ss.length ≤ n) (hz : ∀ s, s ∈ ss → s.size ≤ 9223372036854775807 ∧ s.size ≤ n) :
    (ev Tryz.prog tab (n + 2)).callA 71 [.sl (ss.map strP)] = some [.val (.bool (textsB ss))] := by
  rw [callA_fn rfl Tryz.func71 rfl rfl rfl]
  have hq : ∀ z : ByteArray, strP z = .val (.string z) := fun _ => rfl
  simp [Tryz.f71, hq]
  refine loop_rule (fun d st => ∃ (i : Nat) (j1 j3 j4 j8 j9 j10 j11 j12 j13 j14 j15 j16 j17 j18 j19 j20 j21 j22 j23 j24 j25 j26 j27 j28 j29 j30 j31 : TV), st = { tm := [.sl (ss.map strP), j1, .val (.bool false), j3, j4, .sl (ss.map strP), .val (.int .i64 ss.length), .val (.int .i64 i), j8, j9, j10, j11, j12, j13, j14, j15, j16, j17, j18, j19, j20, j21, j22, j23, j24, j25, j26, j27, j28, j29, j30, j31], sus := [], so := [] } ∧ d = ss.length - i ∧ i ≤ ss.length ∧ (List.range i).all (textAt ss) = true) ?_ _ ss.length _ (by omega) ⟨0, _, _, _, _, _, _, _, _, _, _, _, _, _, _, _, _, _, _, _, _, _, _, _, _, _, _, _, rfl, rfl, by omega, by simp⟩
  rintro d st m ⟨i, j1, j3, j4, j8, j9, j10, j11, j12, j13, j14, j15, j16, j17, j18, j19, j20, j21, j22, j23, j24, j25, j26, j27, j28, j29, j30, j31, rfl, rfl, hi, hall⟩ ih
  by_cases hlt : i < ss.length
  · obtain ⟨z, hc⟩ : ∃ z, ss[i]? = some z := ⟨ss[i], by simp⟩
    have hw := wrap_succ hlt hs
    have hmem := hz z (List.mem_of_getElem? hc)
    have w := normalized_ev n z _ rfl hmem.1 hmem.2
    rw [hq] at w
    have hd : decide ((i : Int) < ss.length) = true := by simp [hlt]
    have hno : textAt ss i = false → textsB ss = false := fun h => by unfold textsB; rw [range_not hlt h]; rfl
    have hok : textAt ss i = (normB z.data.toList && (decide (i = 0) || match ss[i - 1]? with | some y => !strLe z y | none => true)) := by unfold textAt; rw [hc]
    cases hwi : normB z.data.toList with
    | true =>
      rw [hwi] at w hok
      by_cases h0 : 0 < i
      · obtain ⟨y, hy⟩ : ∃ y, ss[i - 1]? = some y := ⟨ss[i - 1], by simp⟩
        have hwm : IntKind.i64.wrap ((i : Int) - 1) = ((i - 1 : Nat) : Int) := by rw [wrap_i64 (by omega) (by omega)]; omega
        have hlm : i - 1 < ss.length := by omega
        have hzy : (Op.bytesLess z.toList y.toList || z.toList == y.toList) = strLe z y := rfl
        cases hb : strLe z y with
        | true =>
          rw [hb] at hzy
          simp [-getElem?_pos, -Bool.or_eq_true, hd, hc, hlt, hw, hq, w, h0, hwm, hy, hlm, hzy]
          exact hno (by rw [hok, hy]; simp [hb]; omega)
        | false =>
          rw [hb] at hzy
          simp [-getElem?_pos, -Bool.or_eq_true, hd, hc, hlt, hw, hq, w, h0, hwm, hy, hlm, hzy]
          exact ih _ _ (by omega) ⟨i + 1, _, _, _, _, _, _, _, _, _, _, _, _, _, _, _, _, _, _, _, _, _, _, _, _, _, _, _, rfl, rfl, by omega, range_all hall (by rw [hok, hy]; simp [hb])⟩
      · obtain rfl : i = 0 := by omega
        simp [-getElem?_pos, hd, hc, hlt, hw, hq, w]
        exact ih _ _ (by omega) ⟨0 + 1, _, _, _, _, _, _, _, _, _, _, _, _, _, _, _, _, _, _, _, _, _, _, _, _, _, _, _, rfl, rfl, by omega, range_all hall (by rw [hok]; simp)⟩
    | false =>
      rw [hwi] at w hok
      simp [-getElem?_pos, hd, hc, hlt, hw, hq, w]
      exact hno (by rw [hok]; rfl)
  · obtain rfl : i = ss.length := by omega
    simp [textsB, hall]
end Go.Proofs.YtlhjljplfmmoaaaGreatDoor.Ev
