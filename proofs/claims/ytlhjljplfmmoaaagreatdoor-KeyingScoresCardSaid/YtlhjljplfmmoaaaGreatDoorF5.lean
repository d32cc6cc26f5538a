/- content.word, strings.Cut: what they compute. -/
import Derived.Test.YtlhjljplfmmoaaaGreatDoorF4
namespace Go.Proofs.YtlhjljplfmmoaaaGreatDoor.Ev
open Go
set_option linter.unusedSimpArgs false
set_option linter.unusedVariables false
set_option maxRecDepth 10000
set_option maxHeartbeats 4000000
def wc (c : UInt8) : Bool := !(decide ((c.toNat : Int) < 65) || decide (90 < (c.toNat : Int))) || !(decide ((c.toNat : Int) < 48) || decide (57 < (c.toNat : Int)))
def wordB (l : List UInt8) : Bool := decide (1 ≤ l.length) && decide (l.length ≤ 8) && l.all wc
theorem word_ev (n : Nat) (s : ByteArray) (l : List UInt8) (hl : s.data.toList = l) (hn : 8 ≤ n) :
    (ev Tryz.prog tab (n + 1)).callA 98 [strP s] = some [.val (.bool (wordB l))] := by
  have hsz := size_l hl
  rw [callA_fn rfl Tryz.func98 rfl rfl rfl]
  by_cases g1 : (s.size : Int) < 1
  · have : wordB l = false := by simp [wordB]; omega
    simp [Tryz.f98, strP, g1, this]
  by_cases g2 : 8 < (s.size : Int)
  · have : wordB l = false := by simp [wordB]; omega
    simp [Tryz.f98, strP, g1, g2, this]
  simp [Tryz.f98, strP, g1, g2]
  have hs : s.size ≤ 9223372036854775807 := by omega
  refine loop_rule (fun d st => ∃ (i : Nat) (j1 j3 j4 j5 j6 j7 j8 j9 j10 j11 j15 j16 j17 j18 j19 j20 j21 j22 j23 j24 j25 j26 j27 j28 j29 j30 j31 j32 j33 j34 j35 j36 j37 j38 j39 : TV), st = { tm := [.val (.string s), j1, .val (.bool false), j3, j4, j5, j6, j7, j8, j9, j10, j11, .val (.string s), .val (.int .i64 s.size), .val (.int .i64 i), j15, j16, j17, j18, j19, j20, j21, j22, j23, j24, j25, j26, j27, j28, j29, j30, j31, j32, j33, j34, j35, j36, j37, j38, j39], sus := [], so := [] } ∧ d = s.size - i ∧ i ≤ s.size ∧ (l.take i).all wc = true) ?_ _ s.size _ (by omega) ⟨0, _, _, _, _, _, _, _, _, _, _, _, _, _, _, _, _, _, _, _, _, _, _, _, _, _, _, _, _, _, _, _, _, _, _, _, rfl, rfl, by omega, by simp⟩
  rintro d st m ⟨i, j1, j3, j4, j5, j6, j7, j8, j9, j10, j11, j15, j16, j17, j18, j19, j20, j21, j22, j23, j24, j25, j26, j27, j28, j29, j30, j31, j32, j33, j34, j35, j36, j37, j38, j39, rfl, rfl, hi, hall⟩ ih
  by_cases hlt : i < s.size
  · obtain ⟨c, hc⟩ : ∃ c, l[i]? = some c := ⟨l[i], by simp⟩
    have hc' : s[i]? = some c := by rw [get_l hl, hc]
    have hw := wrap_succ hlt hs
    have hd : decide ((i : Int) < s.size) = true := by simp [hlt]
    have hno : wc c = false → wordB l = false := fun h => by unfold wordB; rw [all_not hc h]; simp
    have hreg : (c.toNat : Int) < 48 ∨ (48 ≤ (c.toNat : Int) ∧ (c.toNat : Int) ≤ 57) ∨ (57 < (c.toNat : Int) ∧ (c.toNat : Int) < 65) ∨ (65 ≤ (c.toNat : Int) ∧ (c.toNat : Int) ≤ 90) ∨ 90 < (c.toNat : Int) := by omega
    rcases hreg with h | h | h | h | h
    · have e1 : (c.toNat : Int) < 65 := by omega
      simp [-getElem?_pos, hd, hc', hlt, hw, h, e1]
      exact hno (by simp [wc, h, e1])
    · have e1 : (c.toNat : Int) < 65 := by omega
      have e2 : ¬ (c.toNat : Int) < 48 := by omega
      have e3 : ¬ 57 < (c.toNat : Int) := by omega
      simp [-getElem?_pos, hd, hc', hlt, hw, e1, e2, e3]
      exact ih _ _ (by omega) ⟨i + 1, _, _, _, _, _, _, _, _, _, _, _, _, _, _, _, _, _, _, _, _, _, _, _, _, _, _, _, _, _, _, _, _, _, _, _, rfl, rfl, by omega, all_take hall hc (by simp [wc, e1, e2, e3])⟩
    · have e2 : ¬ (c.toNat : Int) < 48 := by omega
      simp [-getElem?_pos, hd, hc', hlt, hw, h.1, h.2, e2]
      exact hno (by simp [wc, h.1, h.2])
    · have e1 : ¬ (c.toNat : Int) < 65 := by omega
      have e2 : ¬ 90 < (c.toNat : Int) := by omega
      simp [-getElem?_pos, hd, hc', hlt, hw, e1, e2]
      exact ih _ _ (by omega) ⟨i + 1, _, _, _, _, _, _, _, _, _, _, _, _, _, _, _, _, _, _, _, _, _, _, _, _, _, _, _, _, _, _, _, _, _, _, _, rfl, rfl, by omega, all_take hall hc (by simp [wc, e1, e2])⟩
    · have e1 : ¬ (c.toNat : Int) < 65 := by omega
      have e2 : ¬ (c.toNat : Int) < 48 := by omega
      have e3 : 57 < (c.toNat : Int) := by omega
      simp [-getElem?_pos, hd, hc', hlt, hw, h, e1, e2, e3]
      exact hno (by simp [wc, h, e1, e2, e3])
  · obtain rfl : i = s.size := by omega
    rw [hsz, List.take_length] at hall
    have : wordB l = true := by simp only [wordB, hall]; simp; omega
    simp [this]
end Go.Proofs.YtlhjljplfmmoaaaGreatDoor.Ev
