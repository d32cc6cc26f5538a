/- Functions of the program: what they compute. -/
import Derived.Test.YtlhjljplfmmoaaaGreatDoorSym
namespace Go.Proofs.YtlhjljplfmmoaaaGreatDoor.Ev
open Go
set_option linter.unusedSimpArgs false
set_option linter.unusedVariables false
set_option maxRecDepth 10000
set_option maxHeartbeats 4000000
def withinB (a b c : Int) : Bool := decide (b ≤ a) && decide (a ≤ c)
theorem within_ev (n : Nat) (a b c : Int) : (ev Tryz.prog tab (n + 1)).callA 40 [intP a, intP b, intP c] = some [.val (.bool (withinB a b c))] := by
  rw [callA_fn rfl Tryz.func40 rfl rfl rfl]
  simp [Tryz.f40, withinB, intP]
  by_cases h : b ≤ a <;> simp [h]
def printC (feeds : Bool) (c : UInt8) : Bool := (!decide ((c.toNat : Int) < 32) && !decide (126 < (c.toNat : Int))) || (feeds && decide ((c.toNat : Int) = 10))
def printB (l : List UInt8) (most : Int) (feeds : Bool) : Bool := l.all (printC feeds) && withinB l.length 1 most
theorem printable_ev (n : Nat) (s : ByteArray) (l : List UInt8) (hl : s.data.toList = l) (most : Int) (feeds : Bool) (hs : s.size ≤ 9223372036854775807) (hn : s.size ≤ n) :
    (ev Tryz.prog tab (n + 2)).callA 67 [strP s, intP most, .val (.bool feeds)] = some [.val (.bool (printB l most feeds))] := by
  have w := within_ev n
  simp only [intP] at w
  have hsz := size_l hl
  rw [callA_fn rfl Tryz.func67 rfl rfl rfl]
  simp [Tryz.f67, intP, strP]
  refine loop_rule (fun d st => ∃ (i : Nat) (j3 j4 j5 j8 j9 j10 j11 j12 j13 j14 j15 j16 j17 j18 j19 j20 j21 j22 j23 j24 j25 j26 j27 j28 j29 j30 j31 j32 j33 j34 j35 j36 j37 : TV), st = { tm := [.val (.string s), .val (.int .i64 most), .val (.bool feeds), j3, j4, j5, .val (.bool false), .val (.int .i64 i), j8, j9, j10, j11, j12, j13, j14, j15, j16, j17, j18, j19, j20, j21, j22, j23, j24, j25, j26, j27, j28, j29, j30, j31, j32, j33, j34, j35, j36, j37], sus := [], so := [] } ∧ d = s.size - i ∧ i ≤ s.size ∧ (l.take i).all (printC feeds) = true) ?_ _ s.size _ (by omega) ⟨0, _, _, _, _, _, _, _, _, _, _, _, _, _, _, _, _, _, _, _, _, _, _, _, _, _, _, _, _, _, _, _, _, _, rfl, rfl, by omega, by simp⟩
  rintro d st m ⟨i, j3, j4, j5, j8, j9, j10, j11, j12, j13, j14, j15, j16, j17, j18, j19, j20, j21, j22, j23, j24, j25, j26, j27, j28, j29, j30, j31, j32, j33, j34, j35, j36, j37, rfl, rfl, hi, hall⟩ ih
  by_cases hlt : i < s.size
  · obtain ⟨c, hc⟩ : ∃ c, l[i]? = some c := ⟨l[i], by simp⟩
    have hc' : s[i]? = some c := by rw [get_l hl, hc]
    have hw := wrap_succ hlt hs
    have hd : decide ((i : Int) < s.size) = true := by simp [hlt]
    by_cases h1 : (c.toNat : Int) < 32 <;> by_cases h2 : 126 < (c.toNat : Int) <;> cases feeds <;> by_cases h4 : (c.toNat : Int) = 10 <;> simp [-getElem?_pos, hd, hc', hlt, hw, h1, h2, h4]
    all_goals first
      | omega
      | exact ih _ _ (by omega) ⟨i + 1, _, _, _, _, _, _, _, _, _, _, _, _, _, _, _, _, _, _, _, _, _, _, _, _, _, _, _, _, _, _, _, _, _, rfl, rfl, by omega, all_take hall hc (by simp [printC, h1, h2, h4])⟩
      | (unfold printB; rw [all_not hc (by simp [printC, h1, h2, h4])]; rfl)
      | trace_state
  · obtain rfl : i = s.size := by omega
    rw [hsz, List.take_length] at hall
    simp [w, printB, hall, hsz]
end Go.Proofs.YtlhjljplfmmoaaaGreatDoor.Ev
