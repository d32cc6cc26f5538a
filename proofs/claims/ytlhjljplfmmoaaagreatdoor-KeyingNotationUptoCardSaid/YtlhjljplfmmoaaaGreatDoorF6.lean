/- strings.Cut at a dot: what comes of it. -/
import Derived.Test.YtlhjljplfmmoaaaGreatDoorFA
import Derived.Lib.Strings
namespace Go.Proofs.YtlhjljplfmmoaaaGreatDoor.Ev
open Go
set_option linter.unusedSimpArgs false
set_option linter.unusedVariables false
set_option maxRecDepth 10000
set_option maxHeartbeats 4000000
theorem indexL_cases (c : UInt8) : ∀ (l : List UInt8) (k : Int), indexL c l k = -1 ∨ (k ≤ indexL c l k ∧ indexL c l k < k + l.length)
  | [], k => .inl rfl
  | x :: t, k => by
    unfold indexL
    split
    · right; simp only [List.length_cons]; omega
    · rcases indexL_cases c t (k + 1) with h | ⟨h1, h2⟩
      · exact .inl h
      · right; simp only [List.length_cons]; omega
theorem drawK_of {R : Type} {P : Program} {D : Dat} {base n : Nat} {F : St → Option R} {b : Bool} {st : St} {ops : Array Oper} {k : Kn} (h : b = true) : drawK P D base n F b (some st) ops k = opsD P D base n F ops ops.toList st k := by
  rw [h]; rfl
theorem indexByte_ev (n : Nat) (s : ByteArray) (c : UInt8) (l : List UInt8) (hl : s.data.toList = l) :
    (ev Tryz.prog tab (n + 2)).callA 161 [strP s, .val (.int .u8 c.toNat)] = some [intP (indexL c l 0)] := by
  have g : (ev Tryz.prog tab (n + 1)).callA 178 [.val (.string s), .val (.int .u8 c.toNat)] = some [.val (.int .i64 (indexL c l 0))] := by
    rw [← hl]
    have : ((c.toNat : Int).toNat).toUInt8 = c := by simp
    show some [PV.val (.int .i64 (indexL ((c.toNat : Int).toNat).toUInt8 s.data.toList 0))] = _
    rw [this]
  rw [callA_fn rfl Tryz.func161 rfl rfl rfl]
  simp [Tryz.f161, strP, intP, g]
theorem index1_ev (n : Nat) (s : ByteArray) (c : UInt8) (l : List UInt8) (hl : s.data.toList = l) :
    (ev Tryz.prog tab (n + 3)).callA 137 [strP s, strP ⟨#[c]⟩] = some [intP (indexL c l 0)] := by
  have g := indexByte_ev n s c l hl
  simp only [strP, intP] at g
  have hz : (⟨#[c]⟩ : ByteArray).size = 1 := rfl
  have h0 : (⟨#[c]⟩ : ByteArray)[0]? = some c := rfl
  rw [callA_fn rfl Tryz.func137 rfl rfl rfl]
  cases hb : ([c] == s.toList) with
  | true =>
    have : l = [c] := by
      rw [beq_iff_eq, Lib.toList_data] at hb
      rw [← hl, ← hb]
    simp [Tryz.f137, strP, intP, hz, h0, hb, this, indexL]
  | false =>
    simp [-getElem?_pos, Tryz.f137, strP, intP, hz, h0, hb, g]
theorem cut_ev (s : ByteArray) (c : UInt8) (hs : s.size ≤ 9223372036854775807) :
    ∃ x y b, x.size ≤ s.size ∧ y.size ≤ s.size ∧ ∀ n, (ev Tryz.prog tab (n + 5)).callA 80 [strP s, strP ⟨#[c]⟩] = some [strP x, strP y, .val (.bool b)] := by
  obtain ⟨l, hl⟩ : ∃ l, s.data.toList = l := ⟨_, rfl⟩
  have hsz := size_l hl
  have hz : (⟨#[c]⟩ : ByteArray).size = 1 := rfl
  have g2 : ∃ x y b, x.size ≤ s.size ∧ y.size ≤ s.size ∧ ∀ n, (ev Tryz.prog tab (n + 4)).callA 114 [.val (.string s), .val (.string ⟨#[c]⟩)] = some [.val (.string x), .val (.string y), .val (.bool b)] := by
    rcases indexL_cases c l 0 with h | ⟨h1, h2⟩
    · refine ⟨s, ⟨#[]⟩, false, Nat.le_refl _, Nat.zero_le _, fun n => ?_⟩
      have g := index1_ev n s c l hl
      simp only [strP, intP] at g
      rw [h] at g
      rw [callA_fn rfl Tryz.func114 rfl rfl rfl]
      simp [Tryz.f114, g]
    · obtain ⟨k, hk⟩ : ∃ k : Nat, indexL c l 0 = k := ⟨(indexL c l 0).toNat, by omega⟩
      rw [hk] at h1 h2
      have hw := wrap_succ (i := k) (m := s.size) (by omega) hs
      refine ⟨s.extract 0 k, s.extract (k + 1) s.size, true, by rw [ByteArray.size_extract]; omega, by rw [ByteArray.size_extract]; omega, fun n => ?_⟩
      have g := index1_ev n s c l hl
      simp only [strP, intP] at g
      rw [hk] at g
      rw [callA_fn rfl Tryz.func114 rfl rfl rfl]
      simp [Tryz.f114, g, hz, hw, show (k : Int) ≤ s.size by omega, show (k : Int) + 1 ≤ s.size by omega, show 0 ≤ (k : Int) + 1 by omega]
      refine (drawK_of (by kernel_rfl)).trans ?_
      simp [evOpD, hw, hz, show (k : Int) ≤ s.size by omega, show (k : Int) + 1 ≤ s.size by omega, show 0 ≤ (k : Int) + 1 by omega]
  obtain ⟨x, y, b, h1, h2, g2⟩ := g2
  refine ⟨x, y, b, h1, h2, fun n => ?_⟩
  have g2 := g2 n
  rw [callA_fn rfl Tryz.func80 rfl rfl rfl]
  simp [Tryz.f80, strP, g2]
end Go.Proofs.YtlhjljplfmmoaaaGreatDoor.Ev
