/- The law KeyingNotation, called. -/
import Derived.Test.YtlhjljplfmmoaaaGreatDoorNF
namespace Go.Proofs.YtlhjljplfmmoaaaGreatDoor.Ev
open Go
set_option linter.unusedSimpArgs false
set_option linter.unusedVariables false
set_option maxRecDepth 10000
set_option maxHeartbeats 4000000
open Nb
theorem same_self (n : Nat) (x : Ans) (hl : x.choices.length ≤ 9223372036854775806) (hn : x.choices.length ≤ n) : (ev Tryz.prog tab (n + 1)).callA 14 [x.pv, x.pv] = some [.val (.bool true)] := by
  obtain ⟨i1, c1, v1, t1, o1⟩ := x
  simp only at hl hn
  have hq : ∀ z : Int, intP z = .val (.int .i64 z) := fun _ => rfl
  have hbe : (o1 == o1) = true := by cases o1 <;> rfl
  rw [callA_fn rfl Tryz.func14 rfl rfl rfl]
  simp [-frame, Tryz.f14, Ans.pv, hbe]
  refine loop_rule (fun d st => ∃ (i : Nat) (a : List (Nat × TV)), st = { tm := frameOf 59 a, sus := [], so := [(2, .box [.val (.int .i64 i1), .sl (c1.map intP), .val (.int .i64 v1), .val (.string t1), .val (.bool o1)]), (3, .box [.val (.int .i64 i1), .sl (c1.map intP), .val (.int .i64 v1), .val (.string t1), .val (.bool o1)])] } ∧ look a 2 = .ptr 2 0 0 ∧ look a 3 = .ptr 3 0 0 ∧ look a 42 = .sl (c1.map intP) ∧ look a 43 = .val (.int .i64 c1.length) ∧ look a 44 = .val (.int .i64 i) ∧ d = c1.length - i ∧ i ≤ c1.length) ?_ _ c1.length _ (by omega) ⟨0, _, rfl, by simp, by simp, by simp, by simp, by simp, rfl, by omega⟩
  rintro d st m ⟨i, a, rfl, h2, h3, h42, h43, h44, rfl, hi⟩ ih
  by_cases hlt : i < c1.length
  · obtain ⟨z, hc⟩ : ∃ z, c1[i]? = some z := ⟨c1[i], by simp⟩
    have hw := wrap_succ hlt (show c1.length ≤ 9223372036854775807 by omega)
    have hd : decide ((i : Int) < c1.length) = true := by simp [hlt]
    simp [-frame, -getElem?_pos, h2, h3, h42, h43, h44, hd, hc, hlt, hw, hq]
    refine (drawK_of (by kernel_rfl)).trans ?_
    simp [-frame, -getElem?_pos, evOpD, callD, argRows, h2, h3, h42, h43, h44, hd, hc, hlt, hw, hq]
    exact ih _ _ (by omega) ⟨i + 1, _, rfl, by simp [h2], by simp [h3], by simp [h42], by simp [h43], by simp, rfl, by omega⟩
  · obtain rfl : i = c1.length := by omega
    simp [-frame, h2, h3, h42, h43, h44]
theorem parse_fits (it : It) (s : List UInt8) : (parseK it s).1.choices.length ≤ s.length + 1 ∧ (parseK it s).1.text.size ≤ s.length := by
  have z : zeroA.choices.length ≤ s.length + 1 ∧ zeroA.text.size ≤ s.length := ⟨by simp [zeroA], by simp [zeroA, ByteArray.size]⟩
  unfold parseK
  split
  · split
    · exact z
    · rename_i a ha
      split
      · unfold readK at ha
        split at ha
        · cases ha; exact ⟨by simp, by simp [ByteArray.size]⟩
        · split at ha
          · split at ha
            · cases ha
            · split at ha
              · cases ha
              · cases ha; exact ⟨by simp, by simp [ByteArray.size]⟩
          · split at ha
            · split at ha
              · cases ha
                exact ⟨by simp, by simp only [ba_size]; exact cutP_len 58 s⟩
              · cases ha
            · split at ha
              · rename_i l hl
                cases ha
                exact ⟨listL_len hl, by simp [ByteArray.size]⟩
              · cases ha
      · exact z
  · exact z
theorem print_len {it : It} {a : Ans} (h : (printK it a).2 = 0) : (printK it a).1.length ≤ a.text.size + 21 * a.choices.length + 50 := by
  by_cases hk : kvalidI it a = 0
  · obtain ⟨hv, hid, hb, hom⟩ := bad_not2 hk
    unfold printK at h ⊢
    rw [if_pos hk] at h ⊢
    split
    · simp
    · rename_i ho
      rw [if_neg ho] at h
      split
      · rename_i h4
        have hin : inner it.kind it.opts.length a = 0 := by
          rcases hom with h | h
          · exact absurd h ho
          · exact h
        unfold inner at hin
        rw [if_pos h4] at hin
        have hr : -9999999 ≤ a.value ∧ a.value ≤ 9999999 := by
          split at hin
          · cases hin
          · omega
        have hd := dec_len (b := a.value.natAbs) (by unfold T; omega)
        have hQ : (padT 3 (Lib.decDigits a.value.natAbs)).length ≤ 10 := by
          unfold padT
          split
          · rw [List.length_append, List.length_replicate]; omega
          · omega
        have hs : (sgnL (decide (a.value < 0)) a.value.natAbs).length ≤ 1 := by
          unfold sgnL
          split <;> first | (split <;> simp) | simp
        unfold printD
        simp only [List.length_append, List.length_take, List.length_drop, List.length_cons, List.length_nil]
        omega
      · rename_i h4
        rw [if_neg h4] at h
        split
        · rename_i h5
          rw [if_pos h5] at h
          split
          · simp only [List.length_cons]
            have := (size_l (s := a.text) rfl)
            omega
          · simp
        · split
          · simp
          · rename_i h5 h6
            have hall : a.choices.all (inB it.opts.length) = true := by
              have hin : inner it.kind it.opts.length a = 0 := by
                rcases hom with h | h
                · exact absurd h ho
                · exact h
              have h56' : writtenC it.kind = false := by simpa using h5
              have h5' : ¬ it.kind = 5 := by intro h5; rw [h5] at h56'; cases h56'
              have h6' : ¬ it.kind = 6 := by intro h6; rw [h6] at h56'; cases h56'
              unfold inner at hin
              rw [if_neg h4, if_neg h5', if_neg h6'] at hin
              unfold choicesI at hin
              split at hin
              · rename_i h1; exact h1
              · cases hin
            have hopt := valid_opts hv
            have := joinB_len (a.choices.map wordK) fun z hz => by
              obtain ⟨x, hx, rfl⟩ := List.mem_map.1 hz
              have h1 := List.all_eq_true.1 hall x hx
              simp [inB] at h1
              have := dec_len (b := (x + 1).toNat) (by unfold T; omega)
              unfold wordK
              omega
            rw [List.length_map] at this
            simp only
            omega
  · unfold printK at h
    rw [if_neg hk] at h
    exact absurd h hk
theorem notation_ev (m : Nat) (it : It) (a : Ans) (s : List UInt8) (haw : (ev Tryz.prog tab (m + 40)).callA 15 [] = some [.val (.bool true)]) (hn : it.Fit m) (hm : it.Fit 9223372036854775807) (hz : it.choices.length * 8 ≤ 140737488351232) (ha : a.choices.length ≤ 2000000) (hat : a.text.size ≤ 2000000) (hs : s.length ≤ 9000000) (hm4 : 100000000 ≤ m) :
    (ev Tryz.prog tab (m + 41)).callA 5 [it.pv, a.pv, strL s] = some [.val (.bool true)] := by
  have hq : ∀ z : Int, intP z = .val (.int .i64 z) := fun _ => rfl
  have hS : ∀ m, strL m = .val (.string ⟨m.toArray⟩) := fun _ => rfl
  have w1 := print_k (m + 18) it a (fitUp hn (by omega)) hm hz (by omega) (by omega) (by omega) (by omega) (by omega)
  have w3 := parse_k (m + 18) it s (fitUp hn (by omega)) hm hz (by omega) (by omega)
  obtain ⟨pf1, pf2⟩ := parse_fits it s
  have w4 := print_k (m + 18) it (parseK it s).1 (fitUp hn (by omega)) hm hz (by omega) (by omega) (by omega) (by omega) (by omega)
  have w5 := kvalid_ev (m + 19) it (parseK it s).1 (fitUp hn (by omega)) hm hz (by omega) (by omega) (by omega)
  have s1 := same_self (m + 39) a (by omega) (by omega)
  have s2 := same_self (m + 39) zeroA (by simp [zeroA]) (by simp [zeroA])
  have hb := @bad_print it a
  have hb2 := @bad_parse it s
  have hfw := @fwd it a
  have hbw := @bwd it s
  have w2 : (printK it a).2 = 0 → (ev Tryz.prog tab (m + 40)).callA 18 [it.pv, strL (printK it a).1] = some [a.pv, intP 0] := fun h => by
    have hl := print_len h
    have := parse_k (m + 18) it (printK it a).1 (fitUp hn (by omega)) hm hz (by omega) (by omega)
    rw [hfw h] at this
    exact this
  obtain ⟨P, hP⟩ : ∃ P, P = printK it a := ⟨_, rfl⟩
  obtain ⟨Q, hQ⟩ : ∃ Q, Q = parseK it s := ⟨_, rfl⟩
  rw [← hP] at w1 w2 hb hfw
  rw [← hQ] at w3 w4 w5 hb2 hbw
  clear hfw pf1 pf2
  obtain ⟨t, e⟩ := P
  obtain ⟨c, f⟩ := Q
  simp only at w1 w2 w3 w4 w5 hb hb2 hbw
  clear hP hQ
  obtain ⟨id, ver, kind, stem, opts, choices, val', tol, texts, pts, cont, fam, set, words, secs, assets, rub⟩ := it
  obtain ⟨aid, ach, av, at', om⟩ := a
  obtain ⟨cid, cch, cv, ct, com⟩ := c
  have hbe : ∀ l : List UInt8, (l == l) = true := fun l => by simp
  by_cases he : e = 0 <;> by_cases hf : f = 0
  · have w2' := w2 he
    obtain ⟨b1, b2⟩ := hbw hf
    rw [b1] at w4
    rw [b2] at w5
    subst he hf
    simp only [It.pv, Ans.pv, hS, hq, strP] at w1 w2' w3 w4 w5 s1
    rw [callA_fn rfl Tryz.func5 rfl rfl rfl]
    simp [-frame, -getElem?_pos, -step_some, stepN, Tryz.f5, It.pv, Ans.pv, hS, strP, hq, w1, w2', w3, w4, w5, s1, haw, ba_list, ze_ans]
  · have w2' := w2 he
    have hz2 := hb2 hf
    unfold zeroA at hz2 s2
    obtain ⟨rfl, rfl, rfl, rfl, rfl⟩ := Ans.mk.inj hz2
    subst he
    simp only [It.pv, Ans.pv, hS, hq, strP, List.map_nil] at w1 w2' w3 s1 s2
    rw [callA_fn rfl Tryz.func5 rfl rfl rfl]
    simp [-frame, -getElem?_pos, -step_some, stepN, Tryz.f5, It.pv, Ans.pv, hS, strP, hq, w1, w2', w3, s1, s2, hf, haw, ba_list, ze_ans]
  · have ht := hb he
    obtain ⟨b1, b2⟩ := hbw hf
    rw [b1] at w4
    rw [b2] at w5
    subst ht hf
    have l0 : (ByteArray.mk #[]).toList = [] := ba_list []
    simp only [It.pv, Ans.pv, hS, hq, strP] at w1 w3 w4 w5
    rw [callA_fn rfl Tryz.func5 rfl rfl rfl]
    simp [-frame, -getElem?_pos, -step_some, stepN, Tryz.f5, It.pv, Ans.pv, hS, strP, hq, w1, w3, w4, w5, he, haw, ba_list, l0, ze_ans]
  · have ht := hb he
    have hz2 := hb2 hf
    unfold zeroA at hz2 s2
    obtain ⟨rfl, rfl, rfl, rfl, rfl⟩ := Ans.mk.inj hz2
    subst ht
    have l0 : (ByteArray.mk #[]).toList = [] := ba_list []
    simp only [It.pv, Ans.pv, hS, hq, strP, List.map_nil] at w1 w3 s2
    rw [callA_fn rfl Tryz.func5 rfl rfl rfl]
    simp [-frame, -getElem?_pos, -step_some, stepN, Tryz.f5, It.pv, Ans.pv, hS, strP, hq, w1, w3, s2, he, hf, haw, ba_list, l0, ze_ans]
end Go.Proofs.YtlhjljplfmmoaaaGreatDoor.Ev
