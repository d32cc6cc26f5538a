/- item.normalized, content.word: what they compute. -/
import Derived.Test.YtlhjljplfmmoaaaGreatDoorF1
namespace Go.Proofs.YtlhjljplfmmoaaaGreatDoor.Ev
open Go
set_option linter.unusedSimpArgs false
set_option linter.unusedVariables false
set_option maxRecDepth 10000
set_option maxHeartbeats 4000000
def okAt (l : List UInt8) (i : Nat) : Bool := match l[i]? with
  | some c => Kn.alnum c || (decide (c = 32) && decide (0 < i) && decide (i + 1 < l.length) && !decide (l[i - 1]? = some 32))
  | none => true
def normB (l : List UInt8) : Bool := (List.range l.length).all (okAt l) && decide (0 < l.length)
theorem range_all {p : Nat → Bool} {i : Nat} (h : (List.range i).all p = true) (hp : p i = true) : (List.range (i + 1)).all p = true := by
  rw [List.range_succ, List.all_append, h]; simp [hp]
theorem range_not {p : Nat → Bool} {i n : Nat} (hi : i < n) (hp : p i = false) : (List.range n).all p = false := by
  rw [List.all_eq_false]; exact ⟨i, List.mem_range.2 hi, by simp [hp]⟩
theorem byte_cases (c : Int) : (c < 48 ∧ c ≠ 32) ∨ c = 32 ∨ (48 ≤ c ∧ c ≤ 57) ∨ (57 < c ∧ c < 97) ∨ (97 ≤ c ∧ c ≤ 122) ∨ 122 < c := by omega
theorem byte_32 {c : UInt8} (h : (c.toNat : Int) = 32) : c = 32 := by
  apply UInt8.toNat_inj.1; show c.toNat = 32; omega
theorem normalized_ev (n : Nat) (s : ByteArray) (l : List UInt8) (hl : s.data.toList = l) (hs : s.size ≤ 9223372036854775807) (hn : s.size ≤ n) :
    (ev Tryz.prog tab (n + 1)).callA 102 [strP s] = some [.val (.bool (normB l))] := by
  have hsz := size_l hl
  rw [callA_fn rfl Tryz.func102 rfl rfl rfl]
  simp [Tryz.f102, strP]
  refine loop_rule (fun d st => ∃ (i : Nat) (j1 j4 j5 j6 j7 j8 j9 j10 j11 j12 j13 j14 j15 j16 j17 j18 j19 j20 j21 j22 j23 j24 j25 j26 j27 j28 j29 j30 j31 j32 j33 j34 j35 j36 j37 j38 j39 j40 j41 j42 j43 j44 j45 j46 j47 j48 j49 j50 j51 j52 : TV), st = { tm := [.val (.string s), j1, .val (.bool false), .val (.int .i64 i), j4, j5, j6, j7, j8, j9, j10, j11, j12, j13, j14, j15, j16, j17, j18, j19, j20, j21, j22, j23, j24, j25, j26, j27, j28, j29, j30, j31, j32, j33, j34, j35, j36, j37, j38, j39, j40, j41, j42, j43, j44, j45, j46, j47, j48, j49, j50, j51, j52], sus := [], so := [] } ∧ d = s.size - i ∧ i ≤ s.size ∧ (List.range i).all (okAt l) = true) ?_ _ s.size _ (by omega) ⟨0, _, _, _, _, _, _, _, _, _, _, _, _, _, _, _, _, _, _, _, _, _, _, _, _, _, _, _, _, _, _, _, _, _, _, _, _, _, _, _, _, _, _, _, _, _, _, _, _, _, _, rfl, rfl, by omega, by simp⟩
  rintro d st m ⟨i, j1, j4, j5, j6, j7, j8, j9, j10, j11, j12, j13, j14, j15, j16, j17, j18, j19, j20, j21, j22, j23, j24, j25, j26, j27, j28, j29, j30, j31, j32, j33, j34, j35, j36, j37, j38, j39, j40, j41, j42, j43, j44, j45, j46, j47, j48, j49, j50, j51, j52, rfl, rfl, hi, hall⟩ ih
  by_cases hlt : i < s.size
  · obtain ⟨c, hc⟩ : ∃ c, l[i]? = some c := ⟨l[i], by simp⟩
    have hc' : s[i]? = some c := by rw [get_l hl, hc]
    have hw := wrap_succ hlt hs
    have hd : decide ((i : Int) < s.size) = true := by simp [hlt]
    have hno : okAt l i = false → normB l = false := fun h => by unfold normB; rw [range_not (by omega) h]; rfl
    have hok : okAt l i = (Kn.alnum c || (decide (c = 32) && decide (0 < i) && decide (i + 1 < l.length) && !decide (l[i - 1]? = some 32))) := by unfold okAt; rw [hc]
    rcases byte_cases (c.toNat : Int) with h | h | h | h | h | h
    · have e1 : ¬ (97 : Int) ≤ c.toNat := by omega
      have e2 : ¬ (48 : Int) ≤ c.toNat := by omega
      have e3 : ¬ (c.toNat : Int) = 32 := by omega
      have ha : Kn.alnum c = false := by simp [Kn.alnum]; omega
      have hc32 : c ≠ 32 := by rintro rfl; exact e3 rfl
      simp [-getElem?_pos, hd, hc', hlt, hw, e1, e2, e3]
      exact hno (by rw [hok, ha]; simp [hc32])
    · have e1 : ¬ (97 : Int) ≤ 32 := by omega
      have e2 : ¬ (48 : Int) ≤ 32 := by omega
      have hc32 := byte_32 h
      have ha : Kn.alnum c = false := by simp [Kn.alnum]; omega
      rw [ha, hc32] at hok
      by_cases h0 : 0 < i
      · obtain ⟨p, hp⟩ : ∃ p, l[i - 1]? = some p := ⟨l[i - 1], by simp⟩
        have hp' : s[i - 1]? = some p := by rw [get_l hl, hp]
        have hwm : IntKind.i64.wrap ((i : Int) - 1) = ((i - 1 : Nat) : Int) := by rw [wrap_i64 (by omega) (by omega)]; omega
        by_cases h1 : i + 1 < s.size
        · by_cases h2 : (p.toNat : Int) = 32
          · have := byte_32 h2
            subst this
            simp [-getElem?_pos, hd, hc', hlt, hw, h, h0, h1, h2, hwm, hp', show (i : Int) + 1 < s.size by omega]
            exact hno (by rw [hok, hp]; simp)
          · have h3 : p ≠ 32 := by rintro rfl; exact h2 rfl
            simp [-getElem?_pos, hd, hc', hlt, hw, h, h0, h1, h2, hwm, hp', show (i : Int) + 1 < s.size by omega]
            exact ih _ _ (by omega) ⟨i + 1, _, _, _, _, _, _, _, _, _, _, _, _, _, _, _, _, _, _, _, _, _, _, _, _, _, _, _, _, _, _, _, _, _, _, _, _, _, _, _, _, _, _, _, _, _, _, _, _, _, _, rfl, rfl, by omega, range_all hall (by rw [hok, hp]; simp [h0, h3]; omega)⟩
        · simp [-getElem?_pos, hd, hc', hlt, hw, h, h0, h1, hwm, hp', show ¬ (i : Int) + 1 < s.size by omega]
          exact hno (by rw [hok]; simp; omega)
      · simp [-getElem?_pos, hd, hc', hlt, hw, h, h0]
        exact hno (by rw [hok]; simp; omega)
    · have e1 : ¬ (97 : Int) ≤ c.toNat := by omega
      have ha : Kn.alnum c = true := by simp [Kn.alnum]; omega
      simp [-getElem?_pos, hd, hc', hlt, hw, e1, h.1, h.2]
      exact ih _ _ (by omega) ⟨i + 1, _, _, _, _, _, _, _, _, _, _, _, _, _, _, _, _, _, _, _, _, _, _, _, _, _, _, _, _, _, _, _, _, _, _, _, _, _, _, _, _, _, _, _, _, _, _, _, _, _, _, rfl, rfl, by omega, range_all hall (by rw [hok, ha]; rfl)⟩
    · have e1 : ¬ (97 : Int) ≤ c.toNat := by omega
      have e2 : (48 : Int) ≤ c.toNat := by omega
      have e3 : ¬ (c.toNat : Int) ≤ 57 := by omega
      have e4 : ¬ (c.toNat : Int) = 32 := by omega
      have ha : Kn.alnum c = false := by simp [Kn.alnum]; omega
      have hc32 : c ≠ 32 := by rintro rfl; exact e4 rfl
      simp [-getElem?_pos, hd, hc', hlt, hw, e1, e2, e3, e4]
      exact hno (by rw [hok, ha]; simp [hc32])
    · have ha : Kn.alnum c = true := by simp [Kn.alnum]; omega
      simp [-getElem?_pos, hd, hc', hlt, hw, h.1, h.2]
      exact ih _ _ (by omega) ⟨i + 1, _, _, _, _, _, _, _, _, _, _, _, _, _, _, _, _, _, _, _, _, _, _, _, _, _, _, _, _, _, _, _, _, _, _, _, _, _, _, _, _, _, _, _, _, _, _, _, _, _, _, rfl, rfl, by omega, range_all hall (by rw [hok, ha]; rfl)⟩
    · have e1 : (97 : Int) ≤ c.toNat := by omega
      have e2 : (48 : Int) ≤ c.toNat := by omega
      have e3 : ¬ (c.toNat : Int) ≤ 57 := by omega
      have e5 : ¬ (c.toNat : Int) ≤ 122 := by omega
      have e4 : ¬ (c.toNat : Int) = 32 := by omega
      have ha : Kn.alnum c = false := by simp [Kn.alnum]; omega
      have hc32 : c ≠ 32 := by rintro rfl; exact e4 rfl
      simp [-getElem?_pos, hd, hc', hlt, hw, e1, e2, e3, e4, e5]
      exact hno (by rw [hok, ha]; simp [hc32])
  · obtain rfl : i = s.size := by omega
    rw [hsz] at hall
    simp [normB, hall, hsz]
end Go.Proofs.YtlhjljplfmmoaaaGreatDoor.Ev
