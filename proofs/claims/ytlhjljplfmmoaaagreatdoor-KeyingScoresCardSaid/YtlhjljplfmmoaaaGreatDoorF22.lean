/- slices.Contains of strings: what it computes. -/
import Derived.Test.YtlhjljplfmmoaaaGreatDoorF6
namespace Go.Proofs.YtlhjljplfmmoaaaGreatDoor.Ev
open Go
set_option linter.unusedSimpArgs false
set_option linter.unusedVariables false
set_option maxRecDepth 10000
set_option maxHeartbeats 4000000
def eqS (v x : ByteArray) : Bool := v.toList == x.toList
def idxS (v : ByteArray) : List ByteArray → Int → Int
  | [], _ => -1
  | x :: t, i => if eqS v x = true then i else idxS v t (i + 1)
theorem idxS_any (v : ByteArray) : ∀ (ss : List ByteArray) (i : Int), 0 ≤ i → decide (0 ≤ idxS v ss i) = ss.any (eqS v)
  | [], i, _ => by simp [idxS]
  | x :: t, i, h => by
    unfold idxS
    rw [List.any_cons]
    by_cases hx : eqS v x = true
    · simp [hx, h]
    · rw [if_neg hx, idxS_any v t (i + 1) (by omega)]
      simp [hx]
theorem indexS_ev (n : Nat) (ss : List ByteArray) (v : ByteArray) (hs : ss.length ≤ 9223372036854775807) (hn : ss.length ≤ n) :
    (ev Tryz.prog tab (n + 1)).callA 57 [.sl (ss.map strP), strP v] = some [intP (idxS v ss 0)] := by
  rw [callA_fn rfl Tryz.func57 rfl rfl rfl]
  have hq : ∀ z : ByteArray, strP z = .val (.string z) := fun _ => rfl
  simp [Tryz.f57, hq, intP]
  refine loop_rule (fun d st => ∃ (i : Nat) (j2 j3 j4 j5 j9 j10 j11 j12 j13 j14 j15 j16 j17 j18 : TV), st = { tm := [.sl (ss.map strP), .val (.string v), j2, j3, j4, j5, .sl (ss.map strP), .val (.int .i64 ss.length), .val (.int .i64 i), j9, j10, j11, j12, j13, j14, j15, j16, j17, j18], sus := [], so := [] } ∧ d = ss.length - i ∧ i ≤ ss.length ∧ idxS v ss 0 = idxS v (ss.drop i) i) ?_ _ ss.length _ (by omega) ⟨0, _, _, _, _, _, _, _, _, _, _, _, _, _, _, rfl, rfl, by omega, by simp⟩
  rintro d st m ⟨i, j2, j3, j4, j5, j9, j10, j11, j12, j13, j14, j15, j16, j17, j18, rfl, rfl, hi, hix⟩ ih
  by_cases hlt : i < ss.length
  · obtain ⟨z, hc⟩ : ∃ z, ss[i]? = some z := ⟨ss[i], by simp⟩
    have hw := wrap_succ hlt hs
    have hd : decide ((i : Int) < ss.length) = true := by simp [hlt]
    have hdr : ss.drop i = z :: ss.drop (i + 1) := by
      rw [List.drop_eq_getElem_cons hlt]
      congr 1
      rw [List.getElem?_eq_getElem hlt] at hc
      exact Option.some.inj hc
    rw [hdr, idxS] at hix
    have he : (v.toList == z.toList) = eqS v z := rfl
    cases hb : eqS v z with
    | true =>
      rw [hb] at he hix
      rw [if_pos rfl] at hix
      simp [-getElem?_pos, hd, hc, hlt, hw, hq, he, hix]
    | false =>
      rw [hb] at he hix
      rw [if_neg (by simp)] at hix
      simp [-getElem?_pos, hd, hc, hlt, hw, hq, he]
      exact ih _ _ (by omega) ⟨i + 1, _, _, _, _, _, _, _, _, _, _, _, _, _, _, rfl, rfl, by omega, by rw [hix]; rfl⟩
  · obtain rfl : i = ss.length := by omega
    rw [List.drop_length] at hix
    simp [hix, idxS]
theorem containsS_ev (n : Nat) (ss : List ByteArray) (v : ByteArray) (hs : ss.length ≤ 9223372036854775807) (hn : ss.length ≤ n) :
    (ev Tryz.prog tab (n + 2)).callA 23 [.sl (ss.map strP), strP v] = some [.val (.bool (ss.any (eqS v)))] := by
  have w := indexS_ev n ss v hs hn
  have hq : ∀ z : ByteArray, strP z = .val (.string z) := fun _ => rfl
  simp only [hq, intP] at w
  rw [callA_fn rfl Tryz.func23 rfl rfl rfl, ← idxS_any v ss 0 (by decide)]
  simp [Tryz.f23, hq, w]
end Go.Proofs.YtlhjljplfmmoaaaGreatDoor.Ev
