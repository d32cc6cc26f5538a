/- keying.Print: what it computes. -/
import Derived.Test.YtlhjljplfmmoaaaGreatDoorNE
import Derived.Test.YtlhjljplfmmoaaaGreatDoorN16
import Derived.Test.YtlhjljplfmmoaaaGreatDoorF50
namespace Go.Proofs.YtlhjljplfmmoaaaGreatDoor.Ev
open Go
set_option linter.unusedSimpArgs false
set_option linter.unusedVariables false
set_option maxRecDepth 10000
set_option maxHeartbeats 4000000
open Nb
def wordK (c : Int) : List UInt8 := Lib.decDigits (c + 1).toNat
noncomputable def printK (it : It) (a : Ans) : List UInt8 × Int :=
  if kvalidI it a = 0 then
    (if a.om = true then ([45], 0)
     else if it.kind = 4 then (printD (decide (a.value < 0)) a.value.natAbs 3, 0)
     else if writtenC it.kind = true then (if a.text.data.toList.all prC = true then (58 :: a.text.data.toList, 0) else ([], 2))
     else if a.choices = [] then ([42], 0)
     else (joinB [44] (a.choices.map wordK), 0))
  else ([], kvalidI it a)
theorem itoa_g (n k : Nat) (h : k ≤ 9223372036854775807) : (ev Tryz.prog tab (n + 1)).callA 47 [.val (.int .i64 k)] = some [strL (Lib.decDigits k)] := by
  rw [callG n (g := gItoa) (by kernel_rfl)]
  show (if k ≤ 9223372036854775807 then some [PV.val (.string ⟨(decL k).toArray⟩)] else none) = _
  rw [if_pos h, decL_eq' (by omega)]
  rfl
theorem strsOf_map : ∀ zs : List (List UInt8), strsOf (zs.map strL) = some (zs.map fun z => ⟨z.toArray⟩)
  | [] => rfl
  | z :: t => by
    rw [List.map_cons]
    show (match strsOf (t.map strL) with | some l => some ((⟨z.toArray⟩ : ByteArray) :: l) | none => none) = _
    rw [strsOf_map t]
    rfl
theorem map_back (zs : List (List UInt8)) : (zs.map fun z => (⟨z.toArray⟩ : ByteArray)).map (·.data.toList) = zs := by
  rw [List.map_map]
  conv => rhs; rw [← List.map_id zs]
  apply List.map_congr_left
  intro z _
  simp
theorem joinB_len : ∀ zs : List (List UInt8), (∀ z, z ∈ zs → z.length ≤ 20) → (joinB [44] zs).length ≤ 21 * zs.length
  | [], _ => by simp [joinB]
  | [x], h => by
    have := h x (by simp)
    simp [joinB]; omega
  | x :: y :: t, h => by
    have h1 := h x (by simp)
    have h2 := joinB_len (y :: t) fun z hz => h z (List.mem_cons_of_mem _ hz)
    show (x ++ [44] ++ joinB [44] (y :: t)).length ≤ _
    simp only [List.length_append, List.length_cons, List.length_nil] at h2 ⊢
    omega
theorem join_g (n : Nat) (zs : List (List UInt8)) (h1 : zs.length ≤ 1000000000) (h2 : ∀ z, z ∈ zs → z.length ≤ 20) :
    (ev Tryz.prog tab (n + 1)).callA 48 [.sl (zs.map strL), .val (.string ⟨#[44]⟩)] = some [strL (joinB [44] zs)] := by
  have h3 := joinB_len zs h2
  rw [callG n (g := gJoin) (by kernel_rfl)]
  unfold gJoin
  simp only [strsOf_map, List.length_map, map_back]
  rw [if_pos ⟨by omega, by omega⟩]
  rfl
theorem bad_not2 {it : It} {a : Ans} (h : kvalidI it a = 0) : validI it = 0 ∧ a.item = it.id ∧ badB it.kind a = false ∧ (a.om = true ∨ inner it.kind it.opts.length a = 0) := by
  unfold kvalidI at h
  split at h
  · rename_i hv
    split at h
    · rename_i hi
      split at h
      · simp at h
      · rename_i hb
        refine ⟨hv, hi, by simpa using hb, ?_⟩
        split at h
        · rename_i ho; exact .inl ho
        · exact .inr h
    · simp at h
  · rename_i hv; exact absurd h hv
theorem print_k (n : Nat) (it : It) (a : Ans) (hn : it.Fit n) (hm : it.Fit 9223372036854775807) (hz : it.choices.length * 8 ≤ 140737488351232) (ha : a.choices.length ≤ 1000000000) (han : a.choices.length ≤ n) (hat : a.text.size ≤ 1000000000) (hatn : a.text.size ≤ n) (hn10 : 100 ≤ n) :
    (ev Tryz.prog tab (n + 22)).callA 17 [it.pv, a.pv] = some [strL (printK it a).1, intP (printK it a).2] := by
  have w := kvalid_ev n it a hn hm hz (by omega) han (by omega)
  obtain ⟨V, hV⟩ : ∃ V, V = printK it a := ⟨_, rfl⟩
  rw [← hV]
  have hq : ∀ z : Int, intP z = .val (.int .i64 z) := fun _ => rfl
  have hS : ∀ m, strL m = .val (.string ⟨m.toArray⟩) := fun _ => rfl
  obtain ⟨KV, hKV⟩ : ∃ KV, KV = kvalidI it a := ⟨_, rfl⟩
  have hbad : KV = 0 → validI it = 0 ∧ a.item = it.id ∧ badB it.kind a = false ∧ (a.om = true ∨ inner it.kind it.opts.length a = 0) := fun h => bad_not2 (by rw [← hKV]; exact h)
  unfold printK at hV
  rw [← hKV] at w hV
  obtain ⟨id, ver, kind, stem, opts, choices, val', tol, texts, pts, cont, fam, set, words, secs, assets, rub⟩ := it
  obtain ⟨aid, ach, av, at', om⟩ := a
  simp only at hV ha han hat hatn
  simp only [It.pv, Ans.pv, intP, strP] at w
  rw [callA_fn rfl Tryz.func17 rfl rfl rfl]
  by_cases h0 : KV = 0
  · rw [if_pos h0] at hV
    have hb := hbad h0
    simp only at hb
    rw [h0] at w
    cases om
    · rw [if_neg (by decide)] at hV
      by_cases h4 : kind = 4
      · rw [if_pos h4] at hV
        rw [hV]
        have hin : -9999999 ≤ av ∧ av ≤ 9999999 := by
          rcases hb.2.2.2 with h | h
          · cases h
          · rw [h4] at h
            unfold inner at h
            rw [if_pos rfl] at h
            simp only at h
            split at h
            · cases h
            · omega
        obtain ⟨m, hm'⟩ : ∃ m, m = av.natAbs := ⟨_, rfl⟩
        have hmB : (ofN m).length ≤ 1 := length_ofN_le.2 (by unfold B; omega)
        have hof := ofInt_n (n + 18) av (by omega) (by omega) (by omega)
        have hdp := decPrint_n (n + 17) (decide (av < 0)) m 3 (by omega) (by omega) (by omega) (by have := dec_len (b := m) (by unfold T; omega); omega) (by omega)
        rw [← hm'] at hof ⊢
        simp only [zP, decP, hq] at hof hdp
        obtain ⟨P, hP⟩ : ∃ P, P = printD (decide (av < 0)) m 3 := ⟨_, rfl⟩
        rw [← hP] at hdp ⊢
        obtain ⟨sg, hsg⟩ : ∃ sg, sg = decide (av < 0) := ⟨_, rfl⟩
        rw [← hsg] at hof hdp
        have hdp' : (ev Tryz.prog tab (n + 21)).callA 44 [.agg [.val (.bool sg), .sl (lim (ofN m)), .val (.int .i64 3)]] = some [strL P, .val (.int .i64 0)] := hdp
        simp only [hS] at hdp'
        subst h4
        simp [-frame, -getElem?_pos, -step_some, stepN, Tryz.f17, It.pv, Ans.pv, hq, hS, strP, w, hof, hdp', sz_dec, sz_int, sz_nat, ze_dec, Tryz.underlying67, Tryz.underlying64]
      · rw [if_neg h4] at hV
        have hk := (valid_kind hb.1).1
        simp only at hk
        have hwr := written_ev2 (n + 20) kind
        simp only [hq] at hwr
        by_cases h56 : writtenC kind = true
        · rw [if_pos h56] at hV
          rw [h56] at hwr
          obtain ⟨tl, htl⟩ : ∃ tl, tl = at'.data.toList := ⟨_, rfl⟩
          have hat' : at' = ⟨tl.toArray⟩ := by rw [htl]
          have htsz : tl.length = at'.size := by rw [htl]; exact (size_l rfl).symm
          have hpr := printableK_l (n + 20) tl (by omega) (by omega)
          rw [← htl] at hV
          subst hat'
          simp only [hS] at hpr
          have a1 : ByteArray.mk #[58] ++ ByteArray.mk tl.toArray = ByteArray.mk (58 :: tl).toArray := ba_app [58] tl
          have z58 : (ByteArray.mk #[58]).size = 1 := rfl
          by_cases hp : tl.all prC = true
          · rw [if_pos hp] at hV
            rw [hV]
            rw [hp] at hpr
            have s1 : 1 + tl.length ≤ 9223372036854775807 := by omega
            obtain ⟨Z, hZ⟩ : ∃ Z, Z = 58 :: tl := ⟨_, rfl⟩
            rw [← hZ] at a1 ⊢
            simp [-frame, -getElem?_pos, -step_some, stepN, Tryz.f17, It.pv, Ans.pv, hq, hS, strP, w, h4, hwr, hpr, a1, z58, ba_size, s1]
          · have hp' : tl.all prC = false := by simpa using hp
            rw [if_neg hp] at hV
            rw [hV]
            rw [hp'] at hpr
            simp [-frame, -getElem?_pos, -step_some, stepN, Tryz.f17, It.pv, Ans.pv, hq, hS, strP, w, h4, hwr, hpr]
        · have h56' : writtenC kind = false := by simpa using h56
          rw [if_neg h56] at hV
          rw [h56'] at hwr
          by_cases hc0 : ach = []
          · rw [if_pos hc0] at hV
            rw [hV]
            subst hc0
            simp only [List.map_nil] at w
            simp [-frame, -getElem?_pos, -step_some, stepN, Tryz.f17, It.pv, Ans.pv, hq, hS, strP, w, h4, hwr]
          · rw [if_neg hc0] at hV
            have hall : ach.all (inB opts.length) = true := by
              rcases hb.2.2.2 with h | h
              · cases h
              · have h5 : ¬ kind = 5 := by intro h5; rw [h5] at h56'; cases h56'
                have h6 : ¬ kind = 6 := by intro h6; rw [h6] at h56'; cases h56'
                unfold inner at h
                rw [if_neg h4, if_neg h5, if_neg h6] at h
                simp only at h
                unfold choicesI at h
                split at h
                · rename_i h1; exact h1
                · cases h
            have hopt := valid_opts hb.1
            simp only at hopt
            have hin : ∀ x, x ∈ ach → 0 ≤ x ∧ x ≤ 9 := fun x hx => by
              have := List.all_eq_true.1 hall x hx
              simp [inB] at this
              omega
            have hcl : ach.length ≠ 0 := fun h => hc0 (List.eq_nil_of_length_eq_zero h)
            have hcl' : ¬ (ach.length : Int) = 0 := by omega
            rw [hV]
            obtain ⟨R, hR⟩ : ∃ R, R = joinB [44] (ach.map wordK) := ⟨_, rfl⟩
            have hjn := join_g (n + 20) (ach.map wordK) (by simpa using ha) (by
              intro z hz'
              obtain ⟨x, hx, rfl⟩ := List.mem_map.1 hz'
              have := hin x hx
              unfold wordK
              have := dec_len (b := (x + 1).toNat) (by unfold T; omega)
              omega)
            rw [← hR] at hjn ⊢
            simp only [hS] at hjn
            simp [-frame, -getElem?_pos, -step_some, stepN, Tryz.f17, It.pv, Ans.pv, hq, hS, strP, w, h4, hwr, hc0, hcl, hcl']
            refine loop_rule (fun d st => ∃ (i : Nat) (so : Store) (A : List (Nat × TV)), st = { tm := frameOf 62 A, sus := [], so := so } ∧ look A 47 = .sl (ach.map intP) ∧ look A 48 = .val (.int .i64 ach.length) ∧ look A 49 = .val (.int .i64 i) ∧ d = ach.length - i ∧ i ≤ ach.length ∧
              ((i = 0 ∧ so = [(2, .box [TV.val (.int .i64 id), .val (.int .i64 ver), .val (.int .i64 kind), .val (.string stem), .sl (opts.map strP), .sl (choices.map intP), .val (.int .i64 val'), .val (.int .i64 tol), .sl (texts.map strP), .val (.int .i64 pts), .val (.string cont), .val (.int .i64 fam), .val (.int .i64 set), .val (.int .i64 words), .val (.int .i64 secs), .sl (assets.map intP), .val (.int .i64 rub)]), (3, .box [TV.val (.int .i64 aid), .sl (ach.map intP), .val (.int .i64 av), .val (.string at'), .val (.bool false)])] ∧ look A 7 = .nil) ∨ ∃ y, so = [(2, .box [TV.val (.int .i64 id), .val (.int .i64 ver), .val (.int .i64 kind), .val (.string stem), .sl (opts.map strP), .sl (choices.map intP), .val (.int .i64 val'), .val (.int .i64 tol), .sl (texts.map strP), .val (.int .i64 pts), .val (.string cont), .val (.int .i64 fam), .val (.int .i64 set), .val (.int .i64 words), .val (.int .i64 secs), .sl (assets.map intP), .val (.int .i64 rub)]), (3, .box [TV.val (.int .i64 aid), .sl (ach.map intP), .val (.int .i64 av), .val (.string at'), .val (.bool false)]), (57, .row 9 [y]), (58, .row 9 ((ach.take i).map fun x => strL (wordK x)))] ∧ look A 7 = .row 58 0 i)) ?_ _ ach.length _ (by omega) ⟨0, _, _, rfl, by simp [hq], by simp, by simp, rfl, by omega, .inl ⟨rfl, by simp [hq, strP], by simp⟩⟩
            rintro d st m ⟨i, so, A, rfl, k47, k48, k49, rfl, hi, hso⟩ ih
            by_cases hlt : i < ach.length
            · obtain ⟨x, hx⟩ : ∃ x, ach[i]? = some x := ⟨ach[i], by simp⟩
              have hwi := wrap_succ hlt (by omega)
              have hd : decide ((i : Int) < ach.length) = true := by simp [hlt]
              have hxr := hin x (List.mem_of_getElem? hx)
              obtain ⟨k, hk'⟩ : ∃ k : Nat, k = (x + 1).toNat := ⟨_, rfl⟩
              have e1 : IntKind.i64.wrap (x + 1) = (k : Int) := by rw [wrap_i64 (by omega) (by omega)]; omega
              have hit := itoa_g (n + 20) k (by omega)
              have hwk : Lib.decDigits k = wordK x := by unfold wordK; rw [← hk']
              rw [hwk] at hit
              obtain ⟨wk, hwk2⟩ : ∃ wk, wk = wordK x := ⟨_, rfl⟩
              rw [← hwk2] at hit
              simp only [hS] at hit
              obtain ⟨L, hL⟩ : ∃ L, L = (ach.take i).map fun x => strL (wordK x) := ⟨_, rfl⟩
              have hmap : L ++ [PV.val (.string ⟨wk.toArray⟩)] = (ach.take (i + 1)).map fun x => strL (wordK x) := by rw [hL, List.take_add_one, hx, hwk2]; simp [hS]
              have hLl : L.length = i := by rw [hL, List.length_map, List.length_take]; omega
              rw [← hL] at hso
              rcases hso with ⟨rfl, rfl, k7⟩ | ⟨y, rfl, k7⟩
              · have hL0 : L = [] := by rw [hL]; simp
                simp [-frame, -getElem?_pos, -step_some, stepN, k47, k48, k49, k7, hd, hlt, hx, hq, e1, hit, wrap_one, sizeT_str, bytesT_str, zeroT_str]
                exact ih _ _ (by omega) ⟨0 + 1, _, _, rfl, by simp [k47, hq], by simp [k48], by simp, rfl, by omega, .inr ⟨_, by rw [← hmap, hL0]; simp [hq, strP]; rfl, by simp⟩⟩
              · have l1 : i ≤ 9223372036854775806 := by omega
                have l2 : i + 1 ≤ 9223372036854775807 := by omega
                have l3 : (i + 1) * 16 ≤ 140737488355328 := by omega
                simp [-frame, -getElem?_pos, -step_some, stepN, k47, k48, k49, k7, hd, hlt, hx, hq, e1, hit, hwi, hLl, l1, l2, l3, sizeT_str, bytesT_str, zeroT_str]
                exact ih _ _ (by omega) ⟨i + 1, _, _, rfl, by simp [k47, hq], by simp [k48], by simp, rfl, by omega, .inr ⟨_, by rw [← hmap], by simp⟩⟩
            · obtain rfl : i = ach.length := by omega
              have hd : decide ((ach.length : Int) < ach.length) = false := by simp
              have hjn' : (ev Tryz.prog tab (n + 21)).callA 48 [.sl (ach.map fun x => strL (wordK x)), .val (.string ⟨#[44]⟩)] = some [.val (.string ⟨R.toArray⟩)] := by
                rw [← hjn]; simp [List.map_map, Function.comp_def, hS]
              rcases hso with ⟨h, _⟩ | ⟨y, rfl, k7⟩
              · exact absurd h hcl
              · rw [List.take_length]
                obtain ⟨L, hL⟩ : ∃ L, L = ach.map fun x => strL (wordK x) := ⟨_, rfl⟩
                have htk : List.take ach.length L = L := List.take_of_length_le (by rw [hL]; simp)
                have hLl : ach.length ≤ L.length := by rw [hL]; simp
                rw [← hL] at hjn' ⊢
                simp [-frame, -getElem?_pos, -step_some, stepN, k47, k48, k49, k7, hd, htk, hLl, hjn', hq, hS]
    · rw [if_pos rfl] at hV
      rw [hV]
      simp [-frame, -getElem?_pos, -step_some, stepN, Tryz.f17, It.pv, Ans.pv, hq, hS, strP, w]
  · rw [if_neg h0] at hV
    rw [hV]
    simp [-frame, -getElem?_pos, -step_some, stepN, Tryz.f17, It.pv, Ans.pv, hq, hS, strP, w, h0]
end Go.Proofs.YtlhjljplfmmoaaaGreatDoor.Ev
