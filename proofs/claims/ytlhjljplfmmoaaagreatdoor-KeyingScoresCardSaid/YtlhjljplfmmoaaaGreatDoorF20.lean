/- strings.TrimSuffix of one byte: what it computes. -/
import Derived.Test.YtlhjljplfmmoaaaGreatDoorF6
import Derived.Lib.Strings
namespace Go.Proofs.YtlhjljplfmmoaaaGreatDoor.Ev
open Go
set_option linter.unusedSimpArgs false
set_option linter.unusedVariables false
set_option maxRecDepth 10000
set_option maxHeartbeats 4000000
theorem ba_eq {a b : ByteArray} (h : a.data.toList = b.data.toList) : a = b := by
  cases a; cases b; simp only at h; congr 1; exact Array.toList_inj.1 h
theorem extract_l (s : ByteArray) (a b : Nat) : (s.extract a b).data.toList = (s.data.toList.take b).drop a := by
  rw [ByteArray.data_extract, Array.toList_extract, List.extract_eq_take_drop, List.drop_take]
theorem hasSuffix_ev (n : Nat) (s : ByteArray) (l : List UInt8) (hl : s.data.toList = l) (hs : s.size ≤ 9223372036854775807) :
    (ev Tryz.prog tab (n + 1)).callA 123 [strP s, strP ⟨#[32]⟩] = some [.val (.bool (Kn.last32 l))] := by
  have hsz := size_l hl
  have hz : (⟨#[32]⟩ : ByteArray).size = 1 := rfl
  rw [callA_fn rfl Tryz.func123 rfl rfl rfl]
  by_cases h : 1 ≤ s.size
  · have hw : IntKind.i64.wrap ((s.size : Int) - 1) = ((s.size - 1 : Nat) : Int) := by rw [wrap_i64 (by omega) (by omega)]; omega
    have hx : ((s.extract (s.size - 1) s.size).toList == [32]) = Kn.last32 l := by
      rw [Lib.toList_data, extract_l, hl, hsz, List.take_length]
      unfold Kn.last32
      have hne : l ≠ [] := by intro he; rw [he, List.length_nil] at hsz; omega
      obtain ⟨t, c, rfl⟩ : ∃ t c, l = t ++ [c] := ⟨l.dropLast, l.getLast hne, (List.dropLast_concat_getLast hne).symm⟩
      simp
    simp [Tryz.f123, strP, hz, h, hw, show (1 : Int) ≤ s.size by omega, show ((s.size - 1 : Nat) : Int) ≤ s.size by omega, hx]
  · have : l = [] := List.eq_nil_of_length_eq_zero (by omega)
    subst this
    simp [Tryz.f123, strP, hz, show ¬ (1 : Int) ≤ s.size by omega, Kn.last32]
theorem trim_ev (n : Nat) (s : ByteArray) (l : List UInt8) (hl : s.data.toList = l) (hs : s.size ≤ 9223372036854775807) :
    (ev Tryz.prog tab (n + 3)).callA 53 [strP s, strP ⟨#[32]⟩] = some [strP ⟨(Kn.trim l).toArray⟩] := by
  have hsz := size_l hl
  have hz : (⟨#[32]⟩ : ByteArray).size = 1 := rfl
  have w := hasSuffix_ev n s l hl hs
  simp only [strP] at w
  have g : (ev Tryz.prog tab (n + 2)).callA 91 [.val (.string s), .val (.string ⟨#[32]⟩)] = some [.val (.string ⟨(Kn.trim l).toArray⟩)] := by
    rw [callA_fn rfl Tryz.func91 rfl rfl rfl]
    cases hb : Kn.last32 l with
    | true =>
      rw [hb] at w
      have h : 1 ≤ s.size := by
        rw [hsz]
        cases l with
        | nil => simp [Kn.last32] at hb
        | cons c t => simp
      have hw : IntKind.i64.wrap ((s.size : Int) - 1) = ((s.size - 1 : Nat) : Int) := by rw [wrap_i64 (by omega) (by omega)]; omega
      have hx : s.extract 0 (s.size - 1) = ⟨(Kn.trim l).toArray⟩ := by
        apply ba_eq
        rw [extract_l, hl, hsz]
        unfold Kn.trim
        rw [hb, if_pos rfl, List.drop_zero, List.dropLast_eq_take]
      simp [Tryz.f91, w, hz, hw, show ((s.size - 1 : Nat) : Int) ≤ s.size by omega, hx]
    | false =>
      rw [hb] at w
      have hx : s = ⟨(Kn.trim l).toArray⟩ := by
        apply ba_eq
        unfold Kn.trim
        rw [hb, hl]; rfl
      simp [Tryz.f91, w]
      exact hx
  rw [callA_fn rfl Tryz.func53 rfl rfl rfl]
  simp [Tryz.f53, strP, g]
end Go.Proofs.YtlhjljplfmmoaaaGreatDoor.Ev
