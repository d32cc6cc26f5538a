/- The law KeyingPartial at an order, evaluated. -/
import Derived.Test.YtlhjljplfmmoaaaGreatDoorF53
namespace Go.Proofs.YtlhjljplfmmoaaaGreatDoor.Ev
open Go
set_option linter.unusedSimpArgs false
set_option linter.unusedVariables false
set_option maxRecDepth 10000
set_option maxHeartbeats 4000000
def mapK (k : Nat) (a : List (Nat × TV)) : List (Nat × TV) := a.map fun p => (p.1, map3 (kill1 k) p.2)
theorem look_mapK (k i : Nat) : ∀ a : List (Nat × TV), look (mapK k a) i = map3 (kill1 k) (look a i)
  | [] => rfl
  | (j, v) :: t => by
    show (if i = j then map3 (kill1 k) v else look (mapK k t) i) = map3 (kill1 k) (if i = j then v else look t i)
    rw [look_mapK k i t]
    split <;> rfl
theorem map_frameOf (N k : Nat) (a : List (Nat × TV)) : List.map (map3 (kill1 k)) (frameOf N a) = frameOf N (mapK k a) := by
  unfold frameOf
  rw [List.map_map]
  apply List.map_congr_left
  intro i _
  exact (look_mapK k i a).symm
attribute [simp] look_mapK map_frameOf
theorem sz27x : zeroT Tryz.prog 27 = some (.agg [.val (.int .i64 0), .nil, .val (.int .i64 0), .val (.string ⟨#[]⟩), .val (.bool false)]) := by kernel_rfl
attribute [local simp] sz27x
theorem partial_order (n : Nat) (id ver val tol pts fam set words secs rub : Int) (stem cont : ByteArray) (opts texts : List ByteArray) (choices assets : List Int) (bits more : Int) (hc0 : 0 < choices.length) (hc : choices.length ≤ 1000) (hn : 1000 ≤ n)
    (w16 : (ev Tryz.prog tab n).callA 16 [It.pv ⟨id, ver, 3, stem, opts, choices, val, tol, texts, pts, cont, fam, set, words, secs, assets, rub⟩] = some [intP 0]) (w15 : (ev Tryz.prog tab n).callA 15 [] = some [.val (.bool true)])
    (w8 : (ev Tryz.prog tab n).callA 8 [It.pv ⟨id, ver, 3, stem, opts, choices, val, tol, texts, pts, cont, fam, set, words, secs, assets, rub⟩, Ans.pv ⟨id, choices.reverse, 0, ⟨#[]⟩, false⟩] = some [intP 0, intP 0]) :
    (ev Tryz.prog tab (n + 1)).callA 7 [It.pv ⟨id, ver, 3, stem, opts, choices, val, tol, texts, pts, cont, fam, set, words, secs, assets, rub⟩, .val (.int .u16 bits), .val (.int .u8 more)] = some [.val (.bool true)] := by
  have hq : ∀ z : Int, intP z = .val (.int .i64 z) := fun _ => rfl
  simp only [It.pv, Ans.pv, hq] at w8 w16
  have hw0 : IntKind.i64.wrap ((choices.length : Int) - 1) = choices.length - 1 := wrap_i64 (by omega) (by omega)
  rw [callA_fn rfl Tryz.func7 rfl rfl rfl]
  simp [-frame, Tryz.f7, It.pv, hq, w16, hw0]
  refine loop_rule (fun d st => ∃ (j : Nat) (v : Int) (b3 : TV) (so : Store) (a : List (Nat × TV)), st = { tm := frameOf 165 a, sus := [], so := so } ∧ look a 3 = .ptr 3 0 0 ∧ look a 6 = .val (.bool false) ∧ look a 8 = .val (.int .i64 v) ∧ v = (choices.length : Int) - 1 - j ∧ look a 7 = b3 ∧ d = choices.length - j ∧ j ≤ choices.length ∧
    ((b3 = .nil ∧ j = 0 ∧ so = [(3, .box [TV.val (.int .i64 id), TV.val (.int .i64 ver), .val (.int .i64 3), .val (.string stem), .sl (opts.map strP), .sl (choices.map intP), .val (.int .i64 val), .val (.int .i64 tol), .sl (texts.map strP), .val (.int .i64 pts), .val (.string cont), .val (.int .i64 fam), .val (.int .i64 set), .val (.int .i64 words), .val (.int .i64 secs), .sl (assets.map intP), .val (.int .i64 rub)])]) ∨ (0 < j ∧ b3 = .row 45 0 j ∧ ∃ y, so = [(3, .box [TV.val (.int .i64 id), TV.val (.int .i64 ver), .val (.int .i64 3), .val (.string stem), .sl (opts.map strP), .sl (choices.map intP), .val (.int .i64 val), .val (.int .i64 tol), .sl (texts.map strP), .val (.int .i64 pts), .val (.string cont), .val (.int .i64 fam), .val (.int .i64 set), .val (.int .i64 words), .val (.int .i64 secs), .sl (assets.map intP), .val (.int .i64 rub)]), (44, .row 3 [.val (.int .i64 y)]), (45, .row 3 ((choices.reverse.take j).map intP))]))) ?_ _ choices.length _ (by omega) ⟨0, (choices.length : Int) - 1, _, _, _, rfl, by simp, by simp, by simp, by simp, by simp, rfl, by omega, .inl ⟨rfl, rfl, rfl⟩⟩
  rintro d st m ⟨j, v, b3, so, a, rfl, h3, h6, h8, hv, h7, rfl, hj, hs⟩ ih
  by_cases hlt : j < choices.length
  · obtain ⟨x, hx⟩ : ∃ x, choices[choices.length - 1 - j]? = some x := ⟨choices[choices.length - 1 - j], by simp⟩
    have hi : v.toNat = choices.length - 1 - j := by omega
    have hw : IntKind.i64.wrap (v - 1) = v - 1 := wrap_i64 (by omega) (by omega)
    have hrev : choices.reverse.take (j + 1) = choices.reverse.take j ++ [x] := by
      rw [List.take_add_one, List.getElem?_reverse hlt, hx]; rfl
    have hl : (choices.reverse.take j).length = j := by simp; omega
    obtain ⟨bk, hbk⟩ : ∃ bk, bk = choices.reverse.take j := ⟨_, rfl⟩
    rw [← hbk] at hl hrev hs
    have hsz := sized_int bk
    have g1 : (0 : Int) ≤ v := by omega
    have g2 : v < choices.length := by omega
    have g3 : choices.length - 1 - j < choices.length := by omega
    rcases hs with ⟨rfl, rfl, rfl⟩ | ⟨hj0, rfl, y, rfl⟩
    · have : bk = [] := List.eq_nil_of_length_eq_zero hl
      subst this
      rw [Nat.sub_zero] at hx g3
      simp [-frame, -getElem?_pos, h3, h6, h8, h7, hi, hx, hw, hq, g1, g2, g3]
      exact ih _ _ (by omega) ⟨0 + 1, v - 1, _, _, _, rfl, by simp [h3], by simp [h6], by simp, by omega, by simp, rfl, by omega, .inr ⟨by omega, rfl, x, by rw [hrev]; rfl⟩⟩
    · have htk : List.take j (bk.map intP) = bk.map intP := List.take_of_length_le (by simp; omega)
      subst hl
      simp [-frame, -getElem?_pos, h3, h6, h8, h7, hi, hx, hw, hq, g1, g2, g3, hsz, show bk.length ≤ 9223372036854775806 by omega, show (bk.length + 1) * 8 ≤ 140737488355328 by omega]
      exact ih _ _ (by omega) ⟨bk.length + 1, v - 1, _, _, _, rfl, by simp [h3], by simp [h6], by simp, by push_cast; omega, by simp, rfl, by omega, .inr ⟨by omega, rfl, x, by rw [hrev, List.map_append]; rfl⟩⟩
  · obtain rfl : j = choices.length := by omega
    have g1 : ¬ (0 : Int) ≤ v := by omega
    rcases hs with ⟨rfl, hj0, rfl⟩ | ⟨hj0, rfl, y, rfl⟩
    · omega
    · obtain ⟨bk, hbk⟩ : ∃ bk, bk = choices.reverse := ⟨_, rfl⟩
      have hbl : bk.length = choices.length := by rw [hbk]; simp
      have hbt : choices.reverse.take choices.length = bk := by rw [hbk]; exact List.take_of_length_le (by simp)
      have htk : List.take choices.length (bk.map intP) = bk.map intP := List.take_of_length_le (by simp; omega)
      rw [hbt]
      rw [← hbk] at w8
      simp [-frame, h3, h6, h8, h7, hq, g1, hbl, htk, w8, w15]
end Go.Proofs.YtlhjljplfmmoaaaGreatDoor.Ev
