/- item.rising, item.texts: what they compute. -/
import Derived.Test.YtlhjljplfmmoaaaGreatDoorF2
namespace Go.Proofs.YtlhjljplfmmoaaaGreatDoor.Ev
open Go
set_option linter.unusedSimpArgs false
set_option linter.unusedVariables false
set_option maxRecDepth 10000
set_option maxHeartbeats 4000000
def riseAt (zs : List Int) (a b : Int) (i : Nat) : Bool := match zs[i]? with
  | some z => withinB z a b && (decide (i = 0) || match zs[i - 1]? with | some y => !decide (z ≤ y) | none => true)
  | none => true
def risingB (zs : List Int) (a b : Int) : Bool := (List.range zs.length).all (riseAt zs a b)
theorem rising_ev (n : Nat) (zs : List Int) (a b : Int) (hs : zs.length ≤ 9223372036854775807) (hn : zs.length ≤ n) :
    (ev Tryz.prog tab (n + 2)).callA 43 [.sl (zs.map intP), intP a, intP b] = some [.val (.bool (risingB zs a b))] := by
  have w := within_ev n
  simp only [intP] at w
  rw [callA_fn rfl Tryz.func43 rfl rfl rfl]
  have hq : ∀ z : Int, intP z = .val (.int .i64 z) := fun _ => rfl
  simp [Tryz.f43, hq]
  refine loop_rule (fun d st => ∃ (i : Nat) (j3 j4 j5 j7 j8 j12 j13 j14 j15 j16 j17 j18 j19 j20 j21 j22 j23 j24 j25 j26 j27 j28 j29 j30 j31 j32 j33 j34 : TV), st = { tm := [.sl (zs.map intP), .val (.int .i64 a), .val (.int .i64 b), j3, j4, j5, .val (.bool false), j7, j8, .sl (zs.map intP), .val (.int .i64 zs.length), .val (.int .i64 i), j12, j13, j14, j15, j16, j17, j18, j19, j20, j21, j22, j23, j24, j25, j26, j27, j28, j29, j30, j31, j32, j33, j34], sus := [], so := [] } ∧ d = zs.length - i ∧ i ≤ zs.length ∧ (List.range i).all (riseAt zs a b) = true) ?_ _ zs.length _ (by omega) ⟨0, _, _, _, _, _, _, _, _, _, _, _, _, _, _, _, _, _, _, _, _, _, _, _, _, _, _, _, _, rfl, rfl, by omega, by simp⟩
  rintro d st m ⟨i, j3, j4, j5, j7, j8, j12, j13, j14, j15, j16, j17, j18, j19, j20, j21, j22, j23, j24, j25, j26, j27, j28, j29, j30, j31, j32, j33, j34, rfl, rfl, hi, hall⟩ ih
  by_cases hlt : i < zs.length
  · obtain ⟨z, hc⟩ : ∃ z, zs[i]? = some z := ⟨zs[i], by simp⟩
    have hw := wrap_succ hlt hs
    have hd : decide ((i : Int) < zs.length) = true := by simp [hlt]
    have hno : riseAt zs a b i = false → risingB zs a b = false := fun h => by unfold risingB; exact range_not hlt h
    have hok : riseAt zs a b i = (withinB z a b && (decide (i = 0) || match zs[i - 1]? with | some y => !decide (z ≤ y) | none => true)) := by unfold riseAt; rw [hc]
    by_cases hwi : withinB z a b = true
    · by_cases h0 : 0 < i
      · obtain ⟨y, hy⟩ : ∃ y, zs[i - 1]? = some y := ⟨zs[i - 1], by simp⟩
        have hwm : IntKind.i64.wrap ((i : Int) - 1) = ((i - 1 : Nat) : Int) := by rw [wrap_i64 (by omega) (by omega)]; omega
        have hlm : i - 1 < zs.length := by omega
        by_cases hzy : z ≤ y
        · simp [-getElem?_pos, hd, hc, hlt, hw, hq, w, hwi, h0, hwm, hy, hlm, hzy]
          exact hno (by rw [hok, hwi, hy]; simp [hzy]; omega)
        · simp [-getElem?_pos, hd, hc, hlt, hw, hq, w, hwi, h0, hwm, hy, hlm, hzy]
          exact ih _ _ (by omega) ⟨i + 1, _, _, _, _, _, _, _, _, _, _, _, _, _, _, _, _, _, _, _, _, _, _, _, _, _, _, _, _, rfl, rfl, by omega, range_all hall (by rw [hok, hwi, hy]; simp [hzy])⟩
      · obtain rfl : i = 0 := by omega
        simp [-getElem?_pos, hd, hc, hlt, hw, hq, w, hwi]
        exact ih _ _ (by omega) ⟨0 + 1, _, _, _, _, _, _, _, _, _, _, _, _, _, _, _, _, _, _, _, _, _, _, _, _, _, _, _, _, rfl, rfl, by omega, range_all hall (by rw [hok, hwi]; simp)⟩
    · simp at hwi
      simp [-getElem?_pos, hd, hc, hlt, hw, hq, w, hwi]
      exact hno (by rw [hok, hwi]; rfl)
  · obtain rfl : i = zs.length := by omega
    simp [risingB, hall]
end Go.Proofs.YtlhjljplfmmoaaaGreatDoor.Ev
