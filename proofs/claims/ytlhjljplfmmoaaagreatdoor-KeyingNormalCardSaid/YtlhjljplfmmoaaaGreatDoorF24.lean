/- The law KeyingNormal, evaluated. -/
import Derived.Test.YtlhjljplfmmoaaaGreatDoorF23
import Derived.Test.YtlhjljplfmmoaaaGreatDoorSp
namespace Go.Proofs.YtlhjljplfmmoaaaGreatDoor.Ev
open Go
set_option linter.unusedSimpArgs false
set_option linter.unusedVariables false
set_option maxRecDepth 10000
set_option maxHeartbeats 4000000
theorem sz27z : zeroT Tryz.prog 27 = some (.agg [.val (.int .i64 0), .nil, .val (.int .i64 0), .val (.string ⟨#[]⟩), .val (.bool false)]) := by kernel_rfl
attribute [local simp] sz27z
theorem valid5 {it : It} (h : validI it = 0) (hk : it.kind = 5) : textsB it.texts = true ∧ numbersB it = true := by
  unfold validI at h
  split at h
  · simp at h
  · rename_i h1
    split at h
    · simp at h
    · split at h
      · simp at h
      · split at h
        · simp at h
        · split at h
          · simp at h
          · rename_i h2
            refine ⟨?_, by simpa using h1⟩
            simp only [Bool.not_eq_true', Bool.not_eq_false] at h2
            unfold fitsB at h2
            split at h2
            · simp at h2
            · split at h2
              · simp at h2
              · unfold keyB at h2
                rw [if_neg (by omega), if_neg (by omega), if_neg (by omega), if_neg (by omega), if_pos hk] at h2
                exact h2
theorem norm_nf {l : List UInt8} (h : normB l = true) : Kn.Nf l := by
  unfold normB at h
  simp only [Bool.and_eq_true, decide_eq_true_eq, List.all_eq_true, List.mem_range] at h
  obtain ⟨h1, h2⟩ := h
  have key : ∀ (i : Nat) (c : UInt8), l[i]? = some c → Kn.alnum c = true ∨ (c = 32 ∧ 0 < i ∧ i + 1 < l.length ∧ l[i - 1]? ≠ some 32) := by
    intro i c hc
    have h3 := h1 i (List.getElem?_eq_some_iff.1 hc).1
    unfold okAt at h3
    rw [hc] at h3
    simp only [Bool.or_eq_true, Bool.and_eq_true, decide_eq_true_eq, Bool.not_eq_true', decide_eq_false_iff_not] at h3
    rcases h3 with h | ⟨⟨⟨a, b⟩, c'⟩, d⟩
    · exact .inl h
    · exact .inr ⟨a, b, c', d⟩
  refine ⟨fun i c hc => ?_, ?_⟩
  · rcases key i c hc with h | ⟨a, b, _, d⟩
    · exact .inl h
    · exact .inr ⟨a, b, d⟩
  · unfold Kn.last32
    rw [beq_eq_false_iff_ne, List.getLast?_eq_getElem?]
    intro he
    rcases key _ _ he with h | ⟨_, _, h, _⟩
    · exact Kn.alnum_ne h rfl
    · omega
theorem texts_nf {ss : List ByteArray} (h : textsB ss = true) {i : Nat} {x : ByteArray} (hx : ss[i]? = some x) : Kn.Nf x.data.toList := by
  unfold textsB at h
  simp only [Bool.and_eq_true, List.all_eq_true, List.mem_range] at h
  have h3 := h.1 i (List.getElem?_eq_some_iff.1 hx).1
  unfold textAt at h3
  rw [hx] at h3
  simp only [Bool.and_eq_true] at h3
  exact norm_nf h3.1
theorem eqS_comm (v x : ByteArray) : eqS v x = eqS x v := by
  unfold eqS
  rw [Bool.eq_iff_iff, beq_iff_eq, beq_iff_eq]
  exact eq_comm
theorem eqS_arr (N : List UInt8) (x : ByteArray) : eqS ⟨N.toArray⟩ x = (x.toList == N) := by
  rw [eqS_comm]
  unfold eqS
  simp
theorem any_take {p : ByteArray → Bool} {l : List ByteArray} {i : Nat} {c : ByteArray} (hc : l[i]? = some c) : (l.take (i + 1)).any p = ((l.take i).any p || p c) := by
  rw [List.take_add_one, hc, List.any_append]
  simp
theorem normal_str {x : ByteArray} (h : Kn.Nf x.data.toList) : (⟨(Kn.normal x.data.toList).toArray⟩ : ByteArray) = x := by
  rw [Kn.normal_self h]
theorem law_ev (m : Nat) (s : ByteArray) (l : List UInt8) (hl : s.data.toList = l) (it : It) (haw : (ev Tryz.prog tab (m + 40)).callA 15 [] = some [.val (.bool true)]) (hs : s.size ≤ 140737488355328) (hsn : s.size ≤ m) (hn : it.Fit m) (hm : it.Fit 140737488355328) (hz : it.choices.length * 8 ≤ 140737488351232) :
    (ev Tryz.prog tab (m + 41)).callA 6 [strP s, it.pv] = some [.val (.bool true)] := by
  have hsz := size_l hl
  have w1 := normal_ev (m + 36) s l hl hs (by omega)
  have hnl : (⟨(Kn.normal l).toArray⟩ : ByteArray).data.toList = Kn.normal l := by simp
  have hns : (⟨(Kn.normal l).toArray⟩ : ByteArray).size = (Kn.normal l).length := by rw [size_l hnl]
  have hle := Kn.normal_length l
  have hnf := Kn.nf_normal l
  have w2 := normal_ev (m + 36) ⟨(Kn.normal l).toArray⟩ _ hnl (by omega) (by omega)
  rw [Kn.normal_self hnf] at w2
  generalize hN : Kn.normal l = N at *
  obtain ⟨id, ver, kind, stem, opts, choices, val, tol, texts, pts, cont, fam, set, words, secs, assets, rub⟩ := it
  simp only [It.pv, intP, strP] at w1 w2
  rw [callA_fn rfl Tryz.func6 rfl rfl rfl]
  simp [-frame, Tryz.f6, It.pv, intP, strP, w1, w2, hns, show ¬ (s.size : Int) < N.length by omega]
  have hNl : N.length ≤ 140737488355328 := by omega
  refine loop_rule (fun d st => ∃ (i : Nat) (a : List (Nat × TV)), st = { tm := frameOf 136 a, sus := [], so := [(3, .box [TV.val (.int .i64 id), .val (.int .i64 ver), .val (.int .i64 kind), .val (.string stem), .sl (opts.map strP), .sl (choices.map intP), .val (.int .i64 val), .val (.int .i64 tol), .sl (texts.map strP), .val (.int .i64 pts), .val (.string cont), .val (.int .i64 fam), .val (.int .i64 set), .val (.int .i64 words), .val (.int .i64 secs), .sl (assets.map intP), .val (.int .i64 rub)])] } ∧ look a 3 = .ptr 3 0 0 ∧ look a 4 = .val (.bool false) ∧ look a 5 = .val (.string ⟨N.toArray⟩) ∧ look a 0 = .val (.string s) ∧ look a 6 = .val (.int .i64 i) ∧ d = N.length - i ∧ i ≤ N.length) ?_ _ N.length _ (by omega) ⟨0, _, rfl, by simp, by simp, by simp, by simp, by simp, rfl, by omega⟩
  rintro d st k ⟨i, a, rfl, h3, h4, h5, h0, h6, rfl, hi⟩ ih
  by_cases hlt : i < N.length
  · obtain ⟨c, hc⟩ : ∃ c, N[i]? = some c := ⟨N[i], by simp⟩
    have hc' : (⟨N.toArray⟩ : ByteArray)[i]? = some c := by rw [get_l hnl, hc]
    have hw := wrap_succ hlt (by omega)
    have hwl : IntKind.i64.wrap ((N.length : Int) - 1) = ((N.length - 1 : Nat) : Int) := by rw [wrap_i64 (by omega) (by omega)]; omega
    have hd : decide ((i : Int) < N.length) = true := by simp [hlt]
    rcases hnf.1 i c hc with ha | ⟨h32, hi0, hp⟩
    · have hr : (48 ≤ c.toNat ∧ c.toNat ≤ 57) ∨ (97 ≤ c.toNat ∧ c.toNat ≤ 122) := by
        simp [Kn.alnum] at ha; omega
      have e32 : ¬ (c.toNat : Int) = 32 := by omega
      rcases hr with hr | hr
      · have e1 : (c.toNat : Int) < 97 := by omega
        have e2 : ¬ (c.toNat : Int) < 48 := by omega
        have e3 : ¬ 57 < (c.toNat : Int) := by omega
        simp [-getElem?_pos, h3, h4, h5, h0, h6, hns, hd, hc', hlt, hw, hwl, e32, e1, e2, e3]
        exact ih _ _ (by omega) ⟨i + 1, _, rfl, by simp [h3], by simp [h4], by simp [h5], by simp [h0], by simp, rfl, by omega⟩
      · have e1 : ¬ (c.toNat : Int) < 97 := by omega
        have e2 : ¬ 122 < (c.toNat : Int) := by omega
        simp [-getElem?_pos, h3, h4, h5, h0, h6, hns, hd, hc', hlt, hw, hwl, e32, e1, e2]
        exact ih _ _ (by omega) ⟨i + 1, _, rfl, by simp [h3], by simp [h4], by simp [h5], by simp [h0], by simp, rfl, by omega⟩
    · obtain ⟨p, hpe⟩ : ∃ p, N[i - 1]? = some p := ⟨N[i - 1], by simp⟩
      have hp' : (⟨N.toArray⟩ : ByteArray)[i - 1]? = some p := by rw [get_l hnl, hpe]
      have hp32 : ¬ (p.toNat : Int) = 32 := fun he => hp (by rw [hpe, byte_32 he])
      have e32 : (c.toNat : Int) = 32 := by rw [h32]; rfl
      have hwm : IntKind.i64.wrap ((i : Int) - 1) = ((i - 1 : Nat) : Int) := by rw [wrap_i64 (by omega) (by omega)]; omega
      have hil : i ≠ N.length - 1 := by
        intro he
        have h2 := hnf.2
        unfold Kn.last32 at h2
        rw [List.getLast?_eq_getElem?, ← he, hc, h32] at h2
        simp at h2
      simp [-getElem?_pos, h3, h4, h5, h0, h6, hns, hd, hc', hlt, hw, hwl, e32, hwm, hp', hp32, show ¬ i = 0 by omega, show ¬ (i : Int) = ((N.length - 1 : Nat) : Int) by omega]
      exact ih _ _ (by omega) ⟨i + 1, _, rfl, by simp [h3], by simp [h4], by simp [h5], by simp [h0], by simp, rfl, by omega⟩
  · obtain rfl : i = N.length := by omega
    clear ih
    have hn20 : It.Fit ⟨id, ver, kind, stem, opts, choices, val, tol, texts, pts, cont, fam, set, words, secs, assets, rub⟩ (m + 20) := ⟨by have := hn.stem; omega, by have := hn.cont; omega, by have := hn.opts; omega, fun s hs => by have := hn.optsS s hs; omega, by have := hn.choices; omega, by have := hn.texts; omega, fun s hs => by have := hn.textsS s hs; omega, by have := hn.assets; omega⟩
    have hmx : It.Fit ⟨id, ver, kind, stem, opts, choices, val, tol, texts, pts, cont, fam, set, words, secs, assets, rub⟩ 9223372036854775807 := ⟨by have := hm.stem; omega, by have := hm.cont; omega, by have := hm.opts; omega, fun s hs => by have := hm.optsS s hs; omega, by have := hm.choices; omega, by have := hm.texts; omega, fun s hs => by have := hm.textsS s hs; omega, by have := hm.assets; omega⟩
    have wv := valid_ev (m + 20) _ hn20 hmx hz
    simp only [It.pv, intP, strP] at wv
    by_cases hv : validI ⟨id, ver, kind, stem, opts, choices, val, tol, texts, pts, cont, fam, set, words, secs, assets, rub⟩ = 0
    · rw [hv] at wv
      by_cases hk : kind = 5
      · subst hk
        simp [h3, h4, h5, h0, h6, hns, wv]
        obtain ⟨htx, hnb⟩ := valid5 hv rfl
        simp only at htx
        clear hnf hi w1 w2 h6 hle
        refine loop_rule (fun d st => ∃ (i : Nat) (a : List (Nat × TV)), st = { tm := frameOf 136 a, sus := [], so := [(3, .box [TV.val (.int .i64 id), .val (.int .i64 ver), .val (.int .i64 5), .val (.string stem), .sl (opts.map strP), .sl (choices.map intP), .val (.int .i64 val), .val (.int .i64 tol), .sl (texts.map strP), .val (.int .i64 pts), .val (.string cont), .val (.int .i64 fam), .val (.int .i64 set), .val (.int .i64 words), .val (.int .i64 secs), .sl (assets.map intP), .val (.int .i64 rub)])] } ∧ look a 3 = .ptr 3 0 0 ∧ look a 4 = .val (.bool false) ∧ look a 5 = .val (.string ⟨N.toArray⟩) ∧ look a 0 = .val (.string s) ∧ look a 85 = .sl (texts.map strP) ∧ look a 86 = .val (.int .i64 texts.length) ∧ look a 87 = .val (.int .i64 i) ∧ look a 8 = .val (.bool ((texts.take i).any (eqS ⟨N.toArray⟩))) ∧ d = texts.length - i ∧ i ≤ texts.length) ?_ _ texts.length _ (by have := hn.texts; simp only at this; omega) ⟨0, _, rfl, by simp [h3], by simp [h4], by simp [h5], by simp [h0], by simp, by simp, by simp, by simp, rfl, by omega⟩
        clear h3 h4 h5 h0
        rintro d st k ⟨i, a, rfl, h3, h4, h5, h0, h85, h86, h87, h8, rfl, hi⟩ ih
        by_cases hlt : i < texts.length
        · obtain ⟨x, hc⟩ : ∃ x, texts[i]? = some x := ⟨texts[i], by simp⟩
          have hw := wrap_succ hlt hmx.texts
          have hd : decide ((i : Int) < texts.length) = true := by simp [hlt]
          have hxm := List.mem_of_getElem? hc
          have hx1 := hm.textsS x hxm
          have hx2 := hn.textsS x hxm
          have wx := normal_ev (m + 36) x _ rfl hx1 (by omega)
          rw [normal_str (texts_nf htx hc)] at wx
          have hq : ∀ z : ByteArray, strP z = .val (.string z) := fun _ => rfl
          simp only [hq] at wx
          have he : (x.toList == (ByteArray.toList ⟨N.toArray⟩)) = eqS ⟨N.toArray⟩ x := eqS_comm x ⟨N.toArray⟩
          have hat := any_take (p := eqS ⟨N.toArray⟩) hc
          cases hb : (texts.take i).any (eqS ⟨N.toArray⟩) with
          | true =>
            rw [hb] at h8 hat
            simp [-getElem?_pos, h3, h4, h5, h0, h85, h86, h87, h8, hd, hc, hlt, hw, hq, wx]
            refine ih _ _ ?_ ⟨i + 1, _, rfl, by simp [h3], by simp [h4], by simp [h5], by simp [h0], by simp [h85], by simp [h86], by simp, ?_, rfl, by omega⟩
            · omega
            · simp [h8, hat]
          | false =>
            rw [hb] at h8 hat
            simp [-getElem?_pos, h3, h4, h5, h0, h85, h86, h87, h8, hd, hc, hlt, hw, hq, wx]
            refine ih _ _ ?_ ⟨i + 1, _, rfl, by simp [h3], by simp [h4], by simp [h5], by simp [h0], by simp [h85], by simp [h86], by simp, ?_, rfl, by omega⟩
            · omega
            · simp [hat, eqS_arr]
        · obtain rfl : i = texts.length := by omega
          rw [List.take_length] at h8
          have hn18 : It.Fit ⟨id, ver, 5, stem, opts, choices, val, tol, texts, pts, cont, fam, set, words, secs, assets, rub⟩ (m + 18) := ⟨by have := hn.stem; omega, by have := hn.cont; omega, by have := hn.opts; omega, fun s hs => by have := hn.optsS s hs; omega, by have := hn.choices; omega, by have := hn.texts; omega, fun s hs => by have := hn.textsS s hs; omega, by have := hn.assets; omega⟩
          have ws := scoreT_ev (m + 18) _ s l hl hs (by omega) hn18 hmx hz hv rfl
          simp only [It.pv, ansT, intP, strP, hN] at ws
          have hpts : 1 ≤ pts := by
            simp [numbersB, withinB] at hnb
            omega
          by_cases h2 : 200 < s.size
          · rw [if_pos h2, if_pos h2] at ws
            simp [h3, h4, h5, h0, h85, h86, h87, h8, ws, haw, show (200 : Int) < s.size by omega]
          · rw [if_neg h2, if_neg h2] at ws
            cases hb : texts.any (eqS ⟨N.toArray⟩) with
            | true =>
              rw [hb, if_pos rfl] at ws
              rw [hb] at h8
              simp [h3, h4, h5, h0, h85, h86, h87, h8, ws, haw, show ¬ (200 : Int) < s.size by omega]
            | false =>
              rw [hb, if_neg (by simp)] at ws
              rw [hb] at h8
              simp [h3, h4, h5, h0, h85, h86, h87, h8, ws, haw, show ¬ (200 : Int) < s.size by omega, show ¬ 0 = pts by omega]
      · simp [h3, h4, h5, h0, h6, hns, wv, hk, haw]
    · simp [h3, h4, h5, h0, h6, hns, wv, hv, haw]
end Go.Proofs.YtlhjljplfmmoaaaGreatDoor.Ev
