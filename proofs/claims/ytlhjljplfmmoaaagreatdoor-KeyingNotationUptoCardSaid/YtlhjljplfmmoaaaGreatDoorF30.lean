/- slices.Index and slices.Contains of ints and of bools, keying.share: what they compute. -/
import Derived.Test.YtlhjljplfmmoaaaGreatDoorF6
import Derived.Test.YtlhjljplfmmoaaaGreatDoorSp
namespace Go.Proofs.YtlhjljplfmmoaaaGreatDoor.Ev
open Go
set_option linter.unusedSimpArgs false
set_option linter.unusedVariables false
set_option maxRecDepth 10000
set_option maxHeartbeats 4000000
def idxI (v : Int) : List Int → Int → Int
  | [], _ => -1
  | x :: t, i => if v = x then i else idxI v t (i + 1)
theorem idxI_any (v : Int) : ∀ (zs : List Int) (i : Int), 0 ≤ i → decide (0 ≤ idxI v zs i) = zs.any (fun x => decide (v = x))
  | [], i, _ => by simp [idxI]
  | x :: t, i, h => by
    unfold idxI
    rw [List.any_cons]
    by_cases hx : v = x
    · simp [hx, h]
    · rw [if_neg hx, idxI_any v t (i + 1) (by omega)]
      simp [hx]
theorem drop_cons {α : Type} {l : List α} {i : Nat} {z : α} (hc : l[i]? = some z) : l.drop i = z :: l.drop (i + 1) := by
  have hlt := (List.getElem?_eq_some_iff.1 hc).1
  rw [List.drop_eq_getElem_cons hlt]
  congr 1
  rw [List.getElem?_eq_getElem hlt] at hc
  exact Option.some.inj hc
theorem indexI_ev (n : Nat) (zs : List Int) (v : Int) (hs : zs.length ≤ 9223372036854775807) (hn : zs.length ≤ n) :
    (ev Tryz.prog tab (n + 1)).callA 56 [.sl (zs.map intP), intP v] = some [intP (idxI v zs 0)] := by
  rw [callA_fn rfl Tryz.func56 rfl rfl rfl]
  have hq : ∀ z : Int, intP z = .val (.int .i64 z) := fun _ => rfl
  simp [-frame, Tryz.f56, hq]
  refine loop_rule (fun d st => ∃ (i : Nat) (a : List (Nat × TV)), st = { tm := frameOf 19 a, sus := [], so := [] } ∧ look a 0 = .sl (zs.map intP) ∧ look a 1 = .val (.int .i64 v) ∧ look a 6 = .sl (zs.map intP) ∧ look a 7 = .val (.int .i64 zs.length) ∧ look a 8 = .val (.int .i64 i) ∧ d = zs.length - i ∧ i ≤ zs.length ∧ idxI v zs 0 = idxI v (zs.drop i) i) ?_ _ zs.length _ (by omega) ⟨0, _, rfl, by simp, by simp, by simp, by simp, by simp, rfl, by omega, by simp⟩
  rintro d st m ⟨i, a, rfl, h0, h1, h6, h7, h8, rfl, hi, hix⟩ ih
  by_cases hlt : i < zs.length
  · obtain ⟨z, hc⟩ : ∃ z, zs[i]? = some z := ⟨zs[i], by simp⟩
    have hw := wrap_succ hlt hs
    have hd : decide ((i : Int) < zs.length) = true := by simp [hlt]
    rw [drop_cons hc, idxI] at hix
    by_cases hb : v = z
    · rw [if_pos hb] at hix
      simp [-frame, -getElem?_pos, h0, h1, h6, h7, h8, hd, hc, hlt, hw, hq, hb]
      rw [← hb]; exact hix.symm
    · rw [if_neg hb] at hix
      simp [-frame, -getElem?_pos, h0, h1, h6, h7, h8, hd, hc, hlt, hw, hq, hb]
      exact ih _ _ (by omega) ⟨i + 1, _, rfl, by simp [h0], by simp [h1], by simp [h6], by simp [h7], by simp, rfl, by omega, by rw [hix]; rfl⟩
  · obtain rfl : i = zs.length := by omega
    rw [List.drop_length] at hix
    simp [-frame, h0, h1, h6, h7, h8, hix, idxI]
theorem containsI_ev (n : Nat) (zs : List Int) (v : Int) (hs : zs.length ≤ 9223372036854775807) (hn : zs.length ≤ n) :
    (ev Tryz.prog tab (n + 2)).callA 54 [.sl (zs.map intP), intP v] = some [.val (.bool (zs.any (fun x => decide (v = x))))] := by
  have w := indexI_ev n zs v hs hn
  have hq : ∀ z : Int, intP z = .val (.int .i64 z) := fun _ => rfl
  simp only [hq] at w
  rw [callA_fn rfl Tryz.func54 rfl rfl rfl, ← idxI_any v zs 0 (by decide)]
  simp [Tryz.f54, hq, w]
def boolP (b : Bool) : PV := .val (.bool b)
def idxF : List Bool → Int → Int
  | [], _ => -1
  | x :: t, i => if x = false then i else idxF t (i + 1)
theorem idxF_any : ∀ (zs : List Bool) (i : Int), 0 ≤ i → decide (0 ≤ idxF zs i) = zs.any (fun x => !x)
  | [], i, _ => by simp [idxF]
  | x :: t, i, h => by
    unfold idxF
    rw [List.any_cons]
    cases x
    · simp [h]
    · rw [if_neg (by simp), idxF_any t (i + 1) (by omega)]
      simp
theorem sz85 : sizeT Tryz.prog 85 = some 1 := by kernel_rfl
theorem by4 : bytesT Tryz.prog 4 = some 1 := by kernel_rfl
theorem ze4 : zeroT Tryz.prog 4 = some (.val (.bool false)) := by kernel_rfl
attribute [simp] sz85 by4 ze4 Tryz.underlying85
theorem indexF_ev (n : Nat) (zs : List Bool) (hs : zs.length ≤ 9223372036854775807) (hn : zs.length ≤ n) :
    (ev Tryz.prog tab (n + 1)).callA 96 [.sl (zs.map boolP), .val (.bool false)] = some [intP (idxF zs 0)] := by
  rw [callA_fn rfl Tryz.func96 rfl rfl rfl]
  have hq : ∀ z : Bool, boolP z = .val (.bool z) := fun _ => rfl
  simp [-frame, Tryz.f96, hq, intP]
  refine loop_rule (fun d st => ∃ (i : Nat) (a : List (Nat × TV)), st = { tm := frameOf 19 a, sus := [], so := [] } ∧ look a 0 = .sl (zs.map boolP) ∧ look a 1 = .val (.bool false) ∧ look a 6 = .sl (zs.map boolP) ∧ look a 7 = .val (.int .i64 zs.length) ∧ look a 8 = .val (.int .i64 i) ∧ d = zs.length - i ∧ i ≤ zs.length ∧ idxF zs 0 = idxF (zs.drop i) i) ?_ _ zs.length _ (by omega) ⟨0, _, rfl, by simp, by simp, by simp, by simp, by simp, rfl, by omega, by simp⟩
  rintro d st m ⟨i, a, rfl, h0, h1, h6, h7, h8, rfl, hi, hix⟩ ih
  by_cases hlt : i < zs.length
  · obtain ⟨z, hc⟩ : ∃ z, zs[i]? = some z := ⟨zs[i], by simp⟩
    have hw := wrap_succ hlt hs
    have hd : decide ((i : Int) < zs.length) = true := by simp [hlt]
    rw [drop_cons hc, idxF] at hix
    cases z with
    | false =>
      rw [if_pos rfl] at hix
      simp [-frame, -getElem?_pos, h0, h1, h6, h7, h8, hd, hc, hlt, hw, hq, hix]
    | true =>
      rw [if_neg (by simp)] at hix
      simp [-frame, -getElem?_pos, h0, h1, h6, h7, h8, hd, hc, hlt, hw, hq]
      exact ih _ _ (by omega) ⟨i + 1, _, rfl, by simp [h0], by simp [h1], by simp [h6], by simp [h7], by simp, rfl, by omega, by rw [hix]; rfl⟩
  · obtain rfl : i = zs.length := by omega
    rw [List.drop_length] at hix
    simp [-frame, h0, h1, h6, h7, h8, hix, idxF]
theorem containsF_ev (n : Nat) (zs : List Bool) (hs : zs.length ≤ 9223372036854775807) (hn : zs.length ≤ n) :
    (ev Tryz.prog tab (n + 2)).callA 65 [.sl (zs.map boolP), .val (.bool false)] = some [.val (.bool (zs.any (fun x => !x)))] := by
  have w := indexF_ev n zs hs hn
  have hq : ∀ z : Bool, boolP z = .val (.bool z) := fun _ => rfl
  simp only [hq, intP] at w
  rw [callA_fn rfl Tryz.func65 rfl rfl rfl, ← idxF_any zs 0 (by decide)]
  simp [Tryz.f65, hq, w]
def shareI (p m d : Int) : Int := (p * (if m < 0 then 0 else m)).tdiv d
theorem share_ev (n : Nat) (p m d : Int) (hp0 : 0 ≤ p) (hp : p ≤ 5) (hm : -4611686018427387904 ≤ m) (hm2 : m ≤ 461168601842738790) (hd : 0 < d) (hd2 : d ≤ 9223372036854775807) : (ev Tryz.prog tab (n + 1)).callA 55 [intP p, intP m, intP d] = some [intP (shareI p m d)] := by
  rw [callA_fn rfl Tryz.func55 rfl rfl rfl]
  have hd0 : ¬ d = 0 := by omega
  by_cases h : m < 0
  · have hw : IntKind.i64.wrap ((0 : Int).tdiv d) = 0 := by rw [Int.zero_tdiv]; rfl
    have hw0 : IntKind.i64.wrap 0 = 0 := rfl
    simp [Tryz.f55, intP, shareI, h, hd0, hw0, show (0 : Int) > m by omega]
  · have hb : 0 ≤ p * m := Int.mul_nonneg hp0 (by omega)
    have hb2 : p * m ≤ 5 * 461168601842738790 := Int.mul_le_mul hp hm2 (by omega) (by omega)
    have hw : IntKind.i64.wrap (p * m) = p * m := wrap_i64 (by omega) (by omega)
    have hq0 : 0 ≤ (p * m).tdiv d := Int.tdiv_nonneg hb (by omega)
    have hq1 : (p * m).tdiv d ≤ p * m := Int.tdiv_le_self d hb
    have hw2 : IntKind.i64.wrap ((p * m).tdiv d) = (p * m).tdiv d := wrap_i64 (by omega) (by omega)
    simp [Tryz.f55, intP, shareI, h, hd0, hw, hw2, show ¬ (0 : Int) > m by omega]
end Go.Proofs.YtlhjljplfmmoaaaGreatDoor.Ev
