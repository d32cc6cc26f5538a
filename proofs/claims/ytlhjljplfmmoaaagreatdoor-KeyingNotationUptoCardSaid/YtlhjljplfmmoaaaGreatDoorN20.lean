/- keying.Parse: what it computes. -/
import Derived.Test.YtlhjljplfmmoaaaGreatDoorN19
namespace Go.Proofs.YtlhjljplfmmoaaaGreatDoor.Ev
open Go
set_option linter.unusedSimpArgs false
set_option linter.unusedVariables false
set_option maxRecDepth 10000
set_option maxHeartbeats 4000000
open Nb
theorem ze_ans : zeroT Tryz.prog 27 = some (.agg [.val (.int .i64 0), .nil, .val (.int .i64 0), .val (.string ⟨#[]⟩), .val (.bool false)]) := by kernel_rfl
def zeroA : Ans := ⟨0, [], 0, ⟨#[]⟩, false⟩
noncomputable def readK (it : It) (s : List UInt8) : Int ⊕ Ans :=
  if s = [45] then .inr ⟨it.id, [], 0, ⟨#[]⟩, true⟩
  else if it.kind = 4 then
    (if (parseD s).err ≠ 0 ∨ (parseD s).places ≠ 3 then .inl 2
     else if (int64Z (parseD s).neg (parseD s).mag).2 = false then .inl 3
     else .inr ⟨it.id, [], (int64Z (parseD s).neg (parseD s).mag).1, ⟨#[]⟩, false⟩)
  else if writtenC it.kind = true then
    (if (cutP 58 s).2 = true ∧ (cutP 58 s).1.all prC = true then .inr ⟨it.id, [], 0, ⟨(cutP 58 s).1.toArray⟩, false⟩ else .inl 2)
  else match listL s with
    | some l => .inr ⟨it.id, l, 0, ⟨#[]⟩, false⟩
    | none => .inl 2
noncomputable def parseK (it : It) (s : List UInt8) : Ans × Int :=
  if validI it = 0 then (match readK it s with
    | .inl e => (zeroA, e)
    | .inr a => if kvalidI it a = 0 then (a, 0) else (zeroA, kvalidI it a))
  else (zeroA, validI it)
theorem fitUp {it : It} {n m : Nat} (h : it.Fit n) (hle : n ≤ m) : it.Fit m := ⟨Nat.le_trans h.stem hle, Nat.le_trans h.cont hle, Nat.le_trans h.opts hle, fun s hs => Nat.le_trans (h.optsS s hs) hle, Nat.le_trans h.choices hle, Nat.le_trans h.texts hle, fun s hs => Nat.le_trans (h.textsS s hs) hle, Nat.le_trans h.assets hle⟩
theorem fold_shift : ∀ (p : List UInt8) (v : Nat), p.foldl (fun v c => v * 10 + (c.toNat - 48)) v = v * 10 ^ p.length + decV p
  | [], v => by simp [decV]
  | c :: t, v => by
    have h1 := fold_shift t (v * 10 + (c.toNat - 48))
    have h2 := fold_shift t (0 * 10 + (c.toNat - 48))
    have h3 : decV (c :: t) = t.foldl (fun v c => v * 10 + (c.toNat - 48)) (0 * 10 + (c.toNat - 48)) := rfl
    rw [List.foldl_cons, h1, h3, h2, List.length_cons, Nat.pow_succ]
    simp only [Nat.zero_mul, Nat.zero_add, Nat.add_mul]
    rw [Nat.mul_comm (10 ^ t.length) 10, Nat.mul_assoc]
    omega
theorem decV_append (w p : List UInt8) : decV (w ++ p) = decV w * 10 ^ p.length + decV p := by
  show (w ++ p).foldl _ 0 = _
  rw [List.foldl_append]
  exact fold_shift p _
theorem parseD_len (s : List UInt8) : (ofN (parseD s).mag).length ≤ 411 := by
  have z : (ofN 0).length ≤ 411 := by rw [ofN_zero]; simp
  unfold parseD
  split
  · exact z
  · rename_i h1
    split
    · exact z
    · split
      · exact z
      · rename_i h3
        simp only
        obtain ⟨w, hw⟩ : ∃ w, w = (cutL 46 (cutP 45 s).1).1 := ⟨_, rfl⟩
        obtain ⟨p, hp⟩ : ∃ p, p = (cutL 46 (cutP 45 s).1).2.1 := ⟨_, rfl⟩
        obtain ⟨b, hb⟩ : ∃ b, b = (cutL 46 (cutP 45 s).1).2.2 := ⟨_, rfl⟩
        rw [← hw, ← hp, ← hb] at h1
        rw [← hw, ← hp] at h3
        rw [← hw, ← hp, ← hb]
        simp only [Bool.or_eq_true, Bool.and_eq_true, Bool.not_eq_true', not_or, not_and, Bool.not_eq_false] at h1
        have hdw : w.all digC = true := by
          have := h1.1.1
          unfold digB at this
          simp only [Bool.and_eq_true] at this
          exact this.2
        split
        · rename_i hbt
          have hdp : p.all digC = true := by
            have := h1.1.2 hbt
            unfold digB at this
            simp only [Bool.and_eq_true] at this
            exact this.2
          rw [← decV_append]
          have hall : (w ++ p).all digC = true := by rw [List.all_append, hdw, hdp]; rfl
          have := decV_len hall
          rw [List.length_append] at this
          omega
        · have := decV_len hdw
          omega
theorem listL_len {s : List UInt8} {l : List Int} (h : listL s = some l) : l.length ≤ s.length + 1 := by
  unfold listL at h
  split at h
  · simp at h; subst h; simp
  · split at h
    · simp at h; subst h
      rw [List.length_map, split_len]
      have := countL_le 44 s
      omega
    · simp at h
theorem parse_k (n : Nat) (it : It) (s : List UInt8) (hn : it.Fit n) (hm : it.Fit 9223372036854775807) (hz : it.choices.length * 8 ≤ 140737488351232) (hs : s.length ≤ 1000000000) (hsn : s.length + 4000 ≤ n) :
    (ev Tryz.prog tab (n + 22)).callA 18 [it.pv, strL s] = some [(parseK it s).1.pv, intP (parseK it s).2] := by
  have hq : ∀ z : Int, intP z = .val (.int .i64 z) := fun _ => rfl
  have hS : ∀ m, strL m = .val (.string ⟨m.toArray⟩) := fun _ => rfl
  have wv := valid_ev (n + 1) it (fitUp hn (by omega)) hm hz
  obtain ⟨V, hV⟩ : ∃ V, V = parseK it s := ⟨_, rfl⟩
  rw [← hV]
  unfold parseK at hV
  obtain ⟨IV, hIV⟩ : ∃ IV, IV = validI it := ⟨_, rfl⟩
  rw [← hIV] at hV wv
  have wk : ∀ a : Ans, a.choices.length ≤ s.length + 1 → (ev Tryz.prog tab (n + 21)).callA 12 [it.pv, a.pv] = some [intP (kvalidI it a)] := fun a ha => kvalid_ev n it a hn hm hz (by omega) (by omega) (by omega)
  have hkind : IV = 0 → 1 ≤ it.kind ∧ it.kind ≤ 6 := fun h => (valid_kind (by rw [← hIV]; exact h)).1
  have h45 : (ByteArray.mk #[45]).toList = [45] := ba_list [45]
  have hdp := decParse_n (n + 15) s (by omega) (by omega)
  have hwr := written_ev2 (n + 20) it.kind
  have hcp := cutPrefix_l (n + 18) s 58 (by omega)
  have hcl := cutP_len 58 s
  have hpr := printableK_l (n + 20) (cutP 58 s).1 (by omega) (by omega)
  have hls := list_l (n + 14) s (by omega) (by omega)
  simp only [hq] at wv hwr hdp
  by_cases h0 : IV = 0
  · rw [if_pos h0] at hV
    rw [h0] at wv
    by_cases hs45 : s = [45]
    · have hr : readK it s = .inr ⟨it.id, [], 0, ⟨#[]⟩, true⟩ := by unfold readK; rw [if_pos hs45]
      rw [hr] at hV
      have w := wk ⟨it.id, [], 0, ⟨#[]⟩, true⟩ (by simp)
      obtain ⟨KV, hKV⟩ : ∃ KV, KV = kvalidI it ⟨it.id, [], 0, ⟨#[]⟩, true⟩ := ⟨_, rfl⟩
      simp only at hV
      rw [← hKV] at hV w
      obtain ⟨id, ver, kind, stem, opts, choices, val', tol, texts, pts, cont, fam, set, words, secs, assets, rub⟩ := it
      subst hs45
      simp only [It.pv, Ans.pv, intP, strP, List.map_nil] at w wv
      rw [callA_fn rfl Tryz.func18 rfl rfl rfl]
      by_cases hk : KV = 0
      · rw [if_pos hk] at hV
        rw [hV]
        rw [hk] at w
        simp [-frame, -getElem?_pos, -step_some, stepN, Tryz.f18, It.pv, Ans.pv, hq, hS, strP, wv, w, h45, ba_list, sz_dec, sz_int, sz_nat, ze_dec, ze_ans, Tryz.underlying67, Tryz.underlying64]
      · rw [if_neg hk] at hV
        rw [hV]
        simp [-frame, -getElem?_pos, -step_some, stepN, Tryz.f18, It.pv, Ans.pv, zeroA, hq, hS, strP, wv, w, hk, h45, ba_list, sz_dec, sz_int, sz_nat, ze_dec, ze_ans, Tryz.underlying67, Tryz.underlying64]
    · have hb45 : (s == [45]) = false := beq_eq_false_iff_ne.2 hs45
      have hki := hkind h0
      -- the end, where an answer was read
      by_cases h4 : it.kind = 4
      · obtain ⟨dr, hdr⟩ : ∃ dr, dr = parseD s := ⟨_, rfl⟩
        have hml := parseD_len s
        rw [← hdr] at hdp hml
        have hi64 := int64_n (n + 18) dr.neg (ofN dr.mag) (LB_ofN _) (by omega) (by omega)
        rw [val_ofN] at hi64
        obtain ⟨iv, hiv⟩ : ∃ iv, iv = int64Z dr.neg dr.mag := ⟨_, rfl⟩
        have hr : readK it s = if dr.err ≠ 0 ∨ dr.places ≠ 3 then .inl 2 else if iv.2 = false then .inl 3 else .inr ⟨it.id, [], iv.1, ⟨#[]⟩, false⟩ := by
          unfold readK; rw [if_neg hs45, if_pos h4, ← hdr, ← hiv]
        rw [← hiv] at hi64
        obtain ⟨neg, mag, pl, er⟩ := dr
        obtain ⟨z, ok⟩ := iv
        simp only at hr hi64 hdp hml
        simp only [zL, hq] at hi64
        simp only [decP, hS] at hdp
        clear hdr hiv hwr hcp hpr hls hcl
        by_cases her : er = 0 ∧ pl = 3
        · obtain ⟨rfl, rfl⟩ := her
          rw [if_neg (by simp)] at hr
          cases ok
          · rw [if_pos rfl] at hr
            rw [hr] at hV
            rw [hV]
            clear wk
            obtain ⟨id, ver, kind, stem, opts, choices, val', tol, texts, pts, cont, fam, set, words, secs, assets, rub⟩ := it
            simp only at h4
            subst h4
            simp only [It.pv, intP, strP] at wv
            rw [callA_fn rfl Tryz.func18 rfl rfl rfl]
            simp [-frame, -getElem?_pos, -step_some, stepN, Tryz.f18, It.pv, Ans.pv, zeroA, hq, hS, strP, wv, h45, hb45, ba_list, hdp, hi64, sz_dec, sz_int, sz_nat, ze_dec, ze_ans, Tryz.underlying67, Tryz.underlying64]
          · rw [if_neg (by decide)] at hr
            rw [hr] at hV
            have w := wk ⟨it.id, [], z, ⟨#[]⟩, false⟩ (by simp)
            obtain ⟨KV, hKV⟩ : ∃ KV, KV = kvalidI it ⟨it.id, [], z, ⟨#[]⟩, false⟩ := ⟨_, rfl⟩
            simp only at hV
            rw [← hKV] at hV w
            clear wk
            obtain ⟨id, ver, kind, stem, opts, choices, val', tol, texts, pts, cont, fam, set, words, secs, assets, rub⟩ := it
            simp only at h4
            subst h4
            simp only [It.pv, Ans.pv, intP, strP, List.map_nil] at w wv
            rw [callA_fn rfl Tryz.func18 rfl rfl rfl]
            by_cases hk : KV = 0
            · rw [if_pos hk] at hV
              rw [hV]
              rw [hk] at w
              simp [-frame, -getElem?_pos, -step_some, stepN, Tryz.f18, It.pv, Ans.pv, hq, hS, strP, wv, w, h45, hb45, ba_list, hdp, hi64, sz_dec, sz_int, sz_nat, ze_dec, ze_ans, Tryz.underlying67, Tryz.underlying64]
            · rw [if_neg hk] at hV
              rw [hV]
              simp [-frame, -getElem?_pos, -step_some, stepN, Tryz.f18, It.pv, Ans.pv, zeroA, hq, hS, strP, wv, w, hk, h45, hb45, ba_list, hdp, hi64, sz_dec, sz_int, sz_nat, ze_dec, ze_ans, Tryz.underlying67, Tryz.underlying64]
        · rw [if_pos (by
            by_cases he : er = 0
            · exact .inr fun hp => her ⟨he, hp⟩
            · exact .inl he)] at hr
          rw [hr] at hV
          rw [hV]
          clear wk
          obtain ⟨id, ver, kind, stem, opts, choices, val', tol, texts, pts, cont, fam, set, words, secs, assets, rub⟩ := it
          simp only at h4
          subst h4
          simp only [It.pv, intP, strP] at wv
          rw [callA_fn rfl Tryz.func18 rfl rfl rfl]
          by_cases he : er = 0
          · have hp : ¬ (pl : Int) = 3 := by
              intro hp; exact her ⟨he, by omega⟩
            subst he
            simp [-frame, -getElem?_pos, -step_some, stepN, Tryz.f18, It.pv, Ans.pv, zeroA, hq, hS, strP, wv, h45, hb45, ba_list, hdp, hp, sz_dec, sz_int, sz_nat, ze_dec, ze_ans, Tryz.underlying67, Tryz.underlying64]
          · simp [-frame, -getElem?_pos, -step_some, stepN, Tryz.f18, It.pv, Ans.pv, zeroA, hq, hS, strP, wv, h45, hb45, ba_list, hdp, he, sz_dec, sz_int, sz_nat, ze_dec, ze_ans, Tryz.underlying67, Tryz.underlying64]
      · by_cases h56 : writtenC it.kind = true
        · rw [h56] at hwr
          obtain ⟨tx, htx⟩ : ∃ tx, tx = (cutP 58 s).1 := ⟨_, rfl⟩
          obtain ⟨fb, hfb⟩ : ∃ fb, fb = (cutP 58 s).2 := ⟨_, rfl⟩
          have hr : readK it s = if fb = true ∧ tx.all prC = true then .inr ⟨it.id, [], 0, ⟨tx.toArray⟩, false⟩ else .inl 2 := by
            unfold readK; rw [if_neg hs45, if_neg h4, if_pos h56, ← htx, ← hfb]
          rw [← htx, ← hfb] at hcp
          rw [← htx] at hpr hcl
          obtain ⟨pa, hpa⟩ : ∃ pa, pa = tx.all prC := ⟨_, rfl⟩
          rw [← hpa] at hr hpr
          simp only [hS, strP] at hcp hpr
          clear hdp hls htx hfb
          by_cases hok : fb = true ∧ pa = true
          · obtain ⟨rfl, rfl⟩ := hok
            rw [if_pos ⟨rfl, rfl⟩] at hr
            rw [hr] at hV
            have w := wk ⟨it.id, [], 0, ⟨tx.toArray⟩, false⟩ (by simp)
            obtain ⟨KV, hKV⟩ : ∃ KV, KV = kvalidI it ⟨it.id, [], 0, ⟨tx.toArray⟩, false⟩ := ⟨_, rfl⟩
            simp only at hV
            rw [← hKV] at hV w
            clear wk
            obtain ⟨id, ver, kind, stem, opts, choices, val', tol, texts, pts, cont, fam, set, words, secs, assets, rub⟩ := it
            simp only at h4 hwr
            simp only [It.pv, Ans.pv, intP, strP, List.map_nil] at w wv
            rw [callA_fn rfl Tryz.func18 rfl rfl rfl]
            by_cases hk : KV = 0
            · rw [if_pos hk] at hV
              rw [hV]
              rw [hk] at w
              simp [-frame, -getElem?_pos, -step_some, stepN, Tryz.f18, It.pv, Ans.pv, hq, hS, strP, wv, w, h45, hb45, ba_list, h4, hwr, hcp, hpr, sz_dec, sz_int, sz_nat, ze_dec, ze_ans, Tryz.underlying67, Tryz.underlying64]
            · rw [if_neg hk] at hV
              rw [hV]
              simp [-frame, -getElem?_pos, -step_some, stepN, Tryz.f18, It.pv, Ans.pv, zeroA, hq, hS, strP, wv, w, hk, h45, hb45, ba_list, h4, hwr, hcp, hpr, sz_dec, sz_int, sz_nat, ze_dec, ze_ans, Tryz.underlying67, Tryz.underlying64]
          · rw [if_neg hok] at hr
            rw [hr] at hV
            rw [hV]
            clear wk
            obtain ⟨id, ver, kind, stem, opts, choices, val', tol, texts, pts, cont, fam, set, words, secs, assets, rub⟩ := it
            simp only at h4 hwr
            simp only [It.pv, intP, strP] at wv
            rw [callA_fn rfl Tryz.func18 rfl rfl rfl]
            cases fb
            · simp [-frame, -getElem?_pos, -step_some, stepN, Tryz.f18, It.pv, Ans.pv, zeroA, hq, hS, strP, wv, h45, hb45, ba_list, h4, hwr, hcp, sz_dec, sz_int, sz_nat, ze_dec, ze_ans, Tryz.underlying67, Tryz.underlying64]
            · have hpa' : pa = false := by cases pa with | false => rfl | true => exact absurd ⟨rfl, rfl⟩ hok
              rw [hpa'] at hpr
              simp [-frame, -getElem?_pos, -step_some, stepN, Tryz.f18, It.pv, Ans.pv, zeroA, hq, hS, strP, wv, h45, hb45, ba_list, h4, hwr, hcp, hpr, sz_dec, sz_int, sz_nat, ze_dec, ze_ans, Tryz.underlying67, Tryz.underlying64]
        · have h56' : writtenC it.kind = false := by simpa using h56
          rw [h56'] at hwr
          have hr : readK it s = match listL s with | some l => .inr ⟨it.id, l, 0, ⟨#[]⟩, false⟩ | none => .inl 2 := by
            unfold readK; rw [if_neg hs45, if_neg h4, if_neg h56]
          unfold listR at hls
          clear hdp hcp hpr hcl
          cases hl : listL s with
          | none =>
            rw [hl] at hr hls
            rw [hr] at hV
            rw [hV]
            simp only [hS] at hls
            clear wk
            obtain ⟨id, ver, kind, stem, opts, choices, val', tol, texts, pts, cont, fam, set, words, secs, assets, rub⟩ := it
            simp only at h4 hwr
            simp only [It.pv, intP, strP] at wv
            rw [callA_fn rfl Tryz.func18 rfl rfl rfl]
            simp [-frame, -getElem?_pos, -step_some, stepN, Tryz.f18, It.pv, Ans.pv, zeroA, hq, hS, strP, wv, h45, hb45, ba_list, h4, hwr, hls, sz_dec, sz_int, sz_nat, ze_dec, ze_ans, Tryz.underlying67, Tryz.underlying64]
          | some l =>
            have hll : l.length ≤ s.length + 1 := listL_len hl
            rw [hl] at hr hls
            rw [hr] at hV
            simp only [hS] at hls
            have w := wk ⟨it.id, l, 0, ⟨#[]⟩, false⟩ hll
            obtain ⟨KV, hKV⟩ : ∃ KV, KV = kvalidI it ⟨it.id, l, 0, ⟨#[]⟩, false⟩ := ⟨_, rfl⟩
            simp only at hV
            rw [← hKV] at hV w
            clear wk
            obtain ⟨id, ver, kind, stem, opts, choices, val', tol, texts, pts, cont, fam, set, words, secs, assets, rub⟩ := it
            simp only at h4 hwr
            simp only [It.pv, Ans.pv, strP] at w wv
            rw [callA_fn rfl Tryz.func18 rfl rfl rfl]
            by_cases hk : KV = 0
            · rw [if_pos hk] at hV
              rw [hV]
              rw [hk] at w
              simp [-frame, -getElem?_pos, -step_some, stepN, Tryz.f18, It.pv, Ans.pv, hq, hS, strP, wv, w, h45, hb45, ba_list, h4, hwr, hls, sz_dec, sz_int, sz_nat, ze_dec, ze_ans, Tryz.underlying67, Tryz.underlying64]
            · rw [if_neg hk] at hV
              rw [hV]
              simp [-frame, -getElem?_pos, -step_some, stepN, Tryz.f18, It.pv, Ans.pv, zeroA, hq, hS, strP, wv, w, hk, h45, hb45, ba_list, h4, hwr, hls, sz_dec, sz_int, sz_nat, ze_dec, ze_ans, Tryz.underlying67, Tryz.underlying64]
  · rw [if_neg h0] at hV
    rw [hV]
    obtain ⟨id, ver, kind, stem, opts, choices, val', tol, texts, pts, cont, fam, set, words, secs, assets, rub⟩ := it
    simp only [It.pv, Ans.pv, intP, strP] at wv
    rw [callA_fn rfl Tryz.func18 rfl rfl rfl]
    simp [-frame, -getElem?_pos, -step_some, stepN, Tryz.f18, It.pv, Ans.pv, zeroA, hq, hS, strP, wv, h0, sz_dec, sz_int, sz_nat, ze_dec, ze_ans, Tryz.underlying67, Tryz.underlying64]
end Go.Proofs.YtlhjljplfmmoaaaGreatDoor.Ev
