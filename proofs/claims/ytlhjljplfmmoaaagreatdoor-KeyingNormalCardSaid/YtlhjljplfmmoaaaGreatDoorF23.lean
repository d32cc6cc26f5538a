/- keying.Valid and keying.Score at a text: what they compute. -/
import Derived.Test.YtlhjljplfmmoaaaGreatDoorF18
import Derived.Test.YtlhjljplfmmoaaaGreatDoorF21
import Derived.Test.YtlhjljplfmmoaaaGreatDoorF22
namespace Go.Proofs.YtlhjljplfmmoaaaGreatDoor.Ev
open Go
set_option linter.unusedSimpArgs false
set_option linter.unusedVariables false
set_option maxRecDepth 10000
set_option maxHeartbeats 4000000
theorem chosen_ev (n : Nat) (k : Int) : (ev Tryz.prog tab (n + 1)).callA 31 [intP k] = some [.val (.bool (chosenB k))] := by
  rw [callA_fn rfl Tryz.func31 rfl rfl rfl]
  by_cases h1 : k = 1
  · simp [Tryz.f31, intP, chosenB, h1]
  by_cases h2 : k = 2
  · simp [Tryz.f31, intP, chosenB, h2]
  · simp [Tryz.f31, intP, chosenB, h1, h2]
def writtenB (k : Int) : Bool := decide (k = 5) || decide (k = 6)
theorem written_ev (n : Nat) (k : Int) : (ev Tryz.prog tab (n + 1)).callA 32 [intP k] = some [.val (.bool (writtenB k))] := by
  rw [callA_fn rfl Tryz.func32 rfl rfl rfl]
  by_cases h1 : k = 5
  · simp [Tryz.f32, intP, writtenB, h1]
  · simp [Tryz.f32, intP, writtenB, h1]
def ansT (id : Int) (s : ByteArray) : PV := .agg [intP id, .sl [], intP 0, strP s, .val (.bool false)]
theorem kvalidT_ev (n : Nat) (it : It) (s : ByteArray) (hn : it.Fit n) (hm : it.Fit 9223372036854775807) (hz : it.choices.length * 8 ≤ 140737488351232) (hv : validI it = 0) (hk : it.kind = 5) :
    (ev Tryz.prog tab (n + 21)).callA 12 [it.pv, ansT it.id s] = some [intP (if 200 < s.size then 5 else 0)] := by
  have w := valid_ev n it hn hm hz
  have wc := chosen_ev (n + 19) 5
  have ww := written_ev (n + 19) 5
  rw [hv] at w
  obtain ⟨id, ver, kind, stem, opts, choices, val, tol, texts, pts, cont, fam, set, words, secs, assets, rub⟩ := it
  simp only at hk
  subst hk
  simp only [It.pv, intP, strP] at w wc ww
  rw [callA_fn rfl Tryz.func12 rfl rfl rfl]
  have e1 : chosenB 5 = false := rfl
  have e2 : writtenB 5 = true := rfl
  rw [e1] at wc
  rw [e2] at ww
  cases hb : (s.toList == []) with
  | true =>
    by_cases h2 : 200 < (s.size : Int)
    · simp [Tryz.f12, It.pv, ansT, intP, strP, w, wc, ww, hb, h2, show 200 < s.size by omega]
    · simp [Tryz.f12, It.pv, ansT, intP, strP, w, wc, ww, hb, h2, show ¬ 200 < s.size by omega]
  | false =>
    by_cases h2 : 200 < (s.size : Int)
    · simp [Tryz.f12, It.pv, ansT, intP, strP, w, wc, ww, hb, h2, show 200 < s.size by omega]
    · simp [Tryz.f12, It.pv, ansT, intP, strP, w, wc, ww, hb, h2, show ¬ 200 < s.size by omega]
theorem whole_ev (n : Nat) (it : It) (b : Bool) : (ev Tryz.prog tab (n + 1)).callA 20 [it.pv, .val (.bool b)] = some [intP (if b = true then it.pts else 0)] := by
  obtain ⟨id, ver, kind, stem, opts, choices, val, tol, texts, pts, cont, fam, set, words, secs, assets, rub⟩ := it
  rw [callA_fn rfl Tryz.func20 rfl rfl rfl]
  cases b <;> simp [Tryz.f20, It.pv, intP, strP]
theorem scoreT_ev (n : Nat) (it : It) (s : ByteArray) (l : List UInt8) (hl : s.data.toList = l) (hs : s.size ≤ 140737488355328) (hsn : s.size ≤ n) (hn : it.Fit n) (hm : it.Fit 9223372036854775807) (hz : it.choices.length * 8 ≤ 140737488351232) (hv : validI it = 0) (hk : it.kind = 5) :
    (ev Tryz.prog tab (n + 22)).callA 8 [it.pv, ansT it.id s] = some [intP (if 200 < s.size then 0 else if it.texts.any (eqS ⟨(Kn.normal l).toArray⟩) = true then it.pts else 0), intP (if 200 < s.size then 5 else 0)] := by
  have w := kvalidT_ev n it s hn hm hz hv hk
  have wn := normal_ev (n + 17) s l hl hs (by omega)
  have wc := containsS_ev (n + 19) it.texts ⟨(Kn.normal l).toArray⟩ hm.texts (by have := hn.texts; omega)
  have wh := whole_ev (n + 20) it (it.texts.any (eqS ⟨(Kn.normal l).toArray⟩))
  obtain ⟨id, ver, kind, stem, opts, choices, val, tol, texts, pts, cont, fam, set, words, secs, assets, rub⟩ := it
  simp only at hk
  subst hk
  simp only [It.pv, ansT, intP, strP] at w wc wn wh
  rw [callA_fn rfl Tryz.func8 rfl rfl rfl]
  by_cases h2 : 200 < s.size
  · rw [if_pos h2] at w
    simp [Tryz.f8, It.pv, ansT, intP, strP, w, h2]
  · rw [if_neg h2] at w
    simp [Tryz.f8, It.pv, ansT, intP, strP, w, wn, wc, wh, h2]
    refine (drawK_of (by kernel_rfl)).trans ?_
    simp [evOpD, callD, argRows, w, wn, wc, wh, h2]
end Go.Proofs.YtlhjljplfmmoaaaGreatDoor.Ev
