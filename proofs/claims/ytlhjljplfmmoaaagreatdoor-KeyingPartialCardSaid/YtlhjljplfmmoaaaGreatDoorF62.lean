/- The law KeyingPartial, called. -/
import Derived.Test.YtlhjljplfmmoaaaGreatDoorF61
import Derived.Test.YtlhjljplfmmoaaaGreatDoorF54
import Derived.Test.YtlhjljplfmmoaaaGreatDoorRow
import Derived.Test.YtlhjljplfmmoaaaGreatDoorAw
namespace Go.Proofs.YtlhjljplfmmoaaaGreatDoor.Ev
open Go
set_option linter.unusedSimpArgs false
set_option linter.unusedVariables false
set_option maxRecDepth 10000
set_option maxHeartbeats 4000000
theorem partial_bad (n : Nat) (it : It) (bits more V : Int) (hV : ¬ V = 0) (w16 : (ev Tryz.prog tab n).callA 16 [it.pv] = some [intP V]) (w15 : (ev Tryz.prog tab n).callA 15 [] = some [.val (.bool true)]) :
    (ev Tryz.prog tab (n + 1)).callA 7 [it.pv, .val (.int .u16 bits), .val (.int .u8 more)] = some [.val (.bool true)] := by
  obtain ⟨id, ver, kind, stem, opts, choices, val, tol, texts, pts, cont, fam, set, words, secs, assets, rub⟩ := it
  simp only [It.pv, intP, strP] at w16
  rw [callA_fn rfl Tryz.func7 rfl rfl rfl]
  simp [-frame, Tryz.f7, It.pv, intP, strP, w16, w15, hV]
theorem partial_other (n : Nat) (it : It) (bits more : Int) (h2 : ¬ it.kind = 2) (h3 : ¬ it.kind = 3) (w16 : (ev Tryz.prog tab n).callA 16 [it.pv] = some [intP 0]) (w15 : (ev Tryz.prog tab n).callA 15 [] = some [.val (.bool true)]) :
    (ev Tryz.prog tab (n + 1)).callA 7 [it.pv, .val (.int .u16 bits), .val (.int .u8 more)] = some [.val (.bool true)] := by
  obtain ⟨id, ver, kind, stem, opts, choices, val, tol, texts, pts, cont, fam, set, words, secs, assets, rub⟩ := it
  simp only at h2 h3
  simp only [It.pv, intP, strP] at w16
  rw [callA_fn rfl Tryz.func7 rfl rfl rfl]
  simp [-frame, Tryz.f7, It.pv, intP, strP, w16, w15, h2, h3]
theorem empty_nil' : emptyS ⟨#[]⟩ = true := by simp [emptyS]
theorem fit_up' {it : It} {n m : Nat} (h : it.Fit n) (hle : n ≤ m) : it.Fit m := ⟨Nat.le_trans h.stem hle, Nat.le_trans h.cont hle, Nat.le_trans h.opts hle, fun s hs => Nat.le_trans (h.optsS s hs) hle, Nat.le_trans h.choices hle, Nat.le_trans h.texts hle, fun s hs => Nat.le_trans (h.textsS s hs) hle, Nat.le_trans h.assets hle⟩
theorem share_mono {p m m' d : Int} (hp : 0 ≤ p) (hm : m ≤ m') (hd : 0 < d) : shareI p m d ≤ shareI p m' d := by
  have key : ∀ a b : Int, 0 ≤ a → a ≤ b → (p * a).tdiv d ≤ (p * b).tdiv d := fun a b ha hab => by
    have h0 : 0 ≤ p * a := Int.mul_nonneg hp ha
    have h1 : p * a ≤ p * b := Int.mul_le_mul_of_nonneg_left hab hp
    rw [Int.tdiv_eq_ediv_of_nonneg h0, Int.tdiv_eq_ediv_of_nonneg (by omega)]
    exact Int.ediv_le_ediv hd h1
  unfold shareI
  exact key _ _ (by split <;> omega) (by split <;> split <;> omega)
theorem ordR_none {f : Int → Int} : ∀ {l : List Int}, (∀ (i j : Nat) (x y : Int), i < j → l[i]? = some x → l[j]? = some y → ¬ f x < f y) → ordR f l = 0
  | [], _ => rfl
  | a :: t, h => by
    unfold ordR
    have h1 : ∀ (u : List Int), (∀ b, b ∈ u → ¬ f a < f b) → cntB (fun b => decide (f a < f b)) u = 0 := by
      intro u
      induction u with
      | nil => intro _; rfl
      | cons b u ih =>
        intro hu
        unfold cntB
        rw [if_neg (by simpa using hu b List.mem_cons_self), ih fun c hc => hu c (List.mem_cons_of_mem _ hc)]
    rw [h1 t fun b hb => by
      obtain ⟨j, hj⟩ := List.mem_iff_getElem?.1 hb
      exact h 0 (j + 1) a b (by omega) rfl (by simpa using hj), ordR_none fun i j x y hij hx hy => h (i + 1) (j + 1) x y (by omega) (by simpa using hx) (by simpa using hy)]
theorem isort_reverse (l : List Int) : isort l.reverse = isort l := by
  rw [← mergeSort_isort, ← mergeSort_isort]
  exact mergeSort_of_perm_i (List.reverse_perm l)
theorem order_facts {it : It} (hv : validI it = 0) (hk : it.kind = 3) : it.choices.length ≤ 10 ∧ 0 < it.choices.length ∧ scoreE it ⟨it.id, it.choices.reverse, 0, ⟨#[]⟩, false⟩ = 0 ∧ scoreN it ⟨it.id, it.choices.reverse, 0, ⟨#[]⟩, false⟩ = 0 := by
  have hkey := key_of hv
  have ho := valid_opts hv
  unfold keyB at hkey
  rw [if_neg (by omega), if_neg (by omega), if_pos hk] at hkey
  simp only [Bool.and_eq_true, decide_eq_true_eq] at hkey
  obtain ⟨c1, c2, c3⟩ := perm_seen hkey.2 hkey.1.2
  obtain ⟨d1, d2, _⟩ := perm_seen (l := it.choices.reverse) (n := it.opts.length) (by rw [isort_reverse]; exact hkey.2) (by rw [List.length_reverse]; exact hkey.1.2)
  have hkv : kvalidI it ⟨it.id, it.choices.reverse, 0, ⟨#[]⟩, false⟩ = 0 := by
    unfold kvalidI
    rw [if_pos hv, if_pos rfl, if_neg (by simp [badB, empty_nil', hk, show chosenB 3 = true from rfl]), if_neg (by simp)]
    unfold inner choicesI
    rw [if_neg (by omega), if_neg (by omega), if_neg (by omega), hk, if_pos d1, if_pos d2]
  have hR : ordR (fun x => idxI x it.choices 0) it.choices.reverse = 0 := ordR_none fun i j x y hij hx hy => by
    have hi := (List.getElem?_eq_some_iff.1 hx).1
    have hj := (List.getElem?_eq_some_iff.1 hy).1
    rw [List.length_reverse] at hi hj
    rw [List.getElem?_reverse hi] at hx
    rw [List.getElem?_reverse hj] at hy
    show ¬ idxI x it.choices 0 < idxI y it.choices 0
    rw [idxI_first _ _ _ _ c3 hx, idxI_first _ _ _ _ c3 hy]
    omega
  have hA : 0 < ordA it.choices.reverse := by
    match hx : it.choices.reverse with
    | [] => have := congrArg List.length hx; rw [List.length_reverse] at this; simp at this; rw [this] at hkey; simp at hkey; omega
    | [x] => have := congrArg List.length hx; rw [List.length_reverse] at this; simp at this; omega
    | x :: y :: t => simp [ordA]; omega
  refine ⟨by omega, by omega, ?_, ?_⟩
  · unfold scoreE; rw [if_pos hkv, if_neg (by omega)]
  · unfold scoreN
    rw [if_pos hkv, if_neg (by omega), if_neg (by simp)]
    unfold ptsI
    rw [if_neg (by omega), if_neg (by omega), if_pos hk]
    simp only
    rw [hR]
    unfold shareI
    rw [if_pos (by omega), Int.mul_zero, Int.zero_tdiv]
theorem multi_facts {it : It} (hv : validI it = 0) (hk : it.kind = 2) {l : List Int} (h1 : upB l = true) (h2 : ∀ x, x ∈ l → 0 ≤ x ∧ x < it.opts.length) : scoreE it ⟨it.id, l, 0, ⟨#[]⟩, false⟩ = 0 ∧ scoreN it ⟨it.id, l, 0, ⟨#[]⟩, false⟩ = shareI it.pts (2 * (cntB (memB it.choices) l : Int) - l.length) it.choices.length := by
  have hkv : kvalidI it ⟨it.id, l, 0, ⟨#[]⟩, false⟩ = 0 := by
    unfold kvalidI
    rw [if_pos hv, if_pos rfl, if_neg (by simp [badB, empty_nil', hk, show chosenB 2 = true from rfl]), if_neg (by simp)]
    unfold inner choicesI
    rw [if_neg (by omega), if_neg (by omega), if_neg (by omega), hk, if_pos (List.all_eq_true.2 fun x hx => by have := h2 x hx; simp [inB]; omega), if_pos (by simp [rightB, h1])]
  constructor
  · unfold scoreE; rw [if_pos hkv, if_neg (by omega)]
  · unfold scoreN
    rw [if_pos hkv, if_neg (by omega), if_neg (by simp)]
    unfold ptsI
    rw [if_neg (by omega), if_pos hk]
theorem partial_ev (m : Nat) (it : It) (bits more : Int) (hm0 : 0 ≤ more) (hm1 : more ≤ 255) (haw : (ev Tryz.prog tab (m + 2040)).callA 15 [] = some [.val (.bool true)]) (hn : it.Fit m) (hm : it.Fit 140737488351232) (hz : it.choices.length * 8 ≤ 140737488351232) :
    (ev Tryz.prog tab (m + 2041)).callA 7 [it.pv, .val (.int .u16 bits), .val (.int .u8 more)] = some [.val (.bool true)] := by
  have hM : it.Fit 9223372036854775807 := fit_up' hm (by decide)
  have w16 := valid_ev (m + 2020) it (fit_up' hn (by omega)) hM hz
  have room : ∀ l : List Int, l.length ≤ 10 → Room (m + 2018) it ⟨it.id, l, 0, ⟨#[]⟩, false⟩ := fun l hl => ⟨fit_up' hn (by omega), hM, hz, by show l.length ≤ _; omega, by show l.length ≤ _; omega, Nat.zero_le _, Nat.zero_le _, by omega⟩
  by_cases hv : validI it = 0
  · rw [hv] at w16
    by_cases h3 : it.kind = 3
    · obtain ⟨o1, o2, o3, o4⟩ := order_facts hv h3
      have w8 := score_ev (m + 2018) it ⟨it.id, it.choices.reverse, 0, ⟨#[]⟩, false⟩ (room _ (by rw [List.length_reverse]; exact o1))
      rw [o3, o4] at w8
      obtain ⟨id, ver, kind, stem, opts, choices, val, tol, texts, pts, cont, fam, set, words, secs, assets, rub⟩ := it
      simp only at h3
      subst h3
      exact partial_order (m + 2040) id ver val tol pts fam set words secs rub stem cont opts texts choices assets bits more o2 (by simp only at o1; omega) (by omega) w16 haw w8
    · by_cases h2 : it.kind = 2
      · have hkey := key_of hv
        have ho := valid_opts hv
        have hpts := pts_range hv
        unfold keyB at hkey
        rw [if_neg (by omega), if_pos h2] at hkey
        simp only [Bool.and_eq_true, decide_eq_true_eq] at hkey
        obtain ⟨c1, c2⟩ := rise_up hkey.2
        have c3 := up_length c1 c2
        have w8 : ∀ l : List Int, upB l = true → (∀ x, x ∈ l → 0 ≤ x ∧ x < it.opts.length) → (ev Tryz.prog tab (m + 2040)).callA 8 [it.pv, Ans.pv ⟨it.id, l, 0, ⟨#[]⟩, false⟩] = some [intP (shareI it.pts (2 * (cntB (memB it.choices) l : Int) - l.length) it.choices.length), intP 0] := fun l h1 h2' => by
          have := score_ev (m + 2018) it ⟨it.id, l, 0, ⟨#[]⟩, false⟩ (room l (Nat.le_trans (len_le h1 h2') ho))
          obtain ⟨f1, f2⟩ := multi_facts hv h2 h1 h2'
          rw [f1, f2] at this
          exact this
        have hN : ∀ (ex : Nat) F L, ex < it.opts.length → Two ex it.opts.length F L → (memB it.choices ex = true → shareI it.pts (2 * (cntB (memB it.choices) F : Int) - F.length) it.choices.length ≤ shareI it.pts (2 * (cntB (memB it.choices) L : Int) - L.length) it.choices.length) ∧ (memB it.choices ex = false → shareI it.pts (2 * (cntB (memB it.choices) L : Int) - L.length) it.choices.length ≤ shareI it.pts (2 * (cntB (memB it.choices) F : Int) - F.length) it.choices.length) := by
          intro ex F L hex hT
          have hc := hT.cnt (memB it.choices)
          have hl := hT.len
          rw [if_pos hex] at hc hl
          constructor
          · intro hb
            rw [if_pos hb] at hc
            exact share_mono (by omega) (by omega) (by omega)
          · intro hb
            rw [if_neg (by rw [hb]; simp)] at hc
            exact share_mono (by omega) (by omega) (by omega)
        obtain ⟨id, ver, kind, stem, opts, choices, val, tol, texts, pts, cont, fam, set, words, secs, assets, rub⟩ := it
        simp only at h2
        subst h2
        exact partial_multi (m + 2040) id ver val tol pts fam set words secs rub stem cont opts texts choices assets bits more hm0 hm1 (by simp only at hkey; omega) ho (by simp only at c3 ho; omega) (by omega) w16 haw _ w8 hN
      · exact partial_other (m + 2040) it bits more h2 h3 w16 haw
  · exact partial_bad (m + 2040) it bits more _ hv w16 haw
theorem fits_kind {n : Nat} {x : PV} {t : TypeId} {k : IntKind} (h : FitsV Tryz.prog (n + 1) t x) (hu : Tryz.prog.underlying t = some (.int k)) : ∃ z, x = .val (.int k z) ∧ (Lit.int k z).wf = true := by
  obtain ⟨h1, h2⟩ := h
  unfold Fits at h1
  rw [hu] at h1
  obtain ⟨z, hz, hw⟩ := h1
  rcases h2 with ⟨h2, _⟩ | ⟨_, h2⟩
  · unfold isAggT at h2; rw [hu] at h2; cases h2
  · rw [h2] at hz
    exact ⟨z, List.cons.inj hz |>.1, hw⟩
set_option maxRecDepth 100000 in
theorem partial_law (W : World) (args : Array Value) (xs : List PV) (h1 : RepVL (inW W) W xs args.toList) (h2 : FitsAll Tryz.prog 6 [25, 44, 5] xs) : Calls Tryz.prog 7 args W fun e W' => e = .returned (.bool true) ∧ RowKit.Below W.heap.size W W' := by
    obtain ⟨x, y, z, rfl, hx, hy, hz'⟩ := fitsAll3 h2
    obtain ⟨it, rfl, hit, hz, m, hm⟩ := fitsV_item (n := 3) hx
    obtain ⟨bits, rfl, _⟩ := fits_kind (n := 5) hy Tryz.underlying44
    obtain ⟨more, rfl, hw⟩ := fits_kind (n := 5) hz' Tryz.underlying5
    have hr : 0 ≤ more ∧ more ≤ 255 := by
      simp [Lit.wf, IntKind.min, IntKind.max, IntKind.signed, IntKind.bits] at hw
      omega
    have he := partial_ev m it bits more hr.1 hr.2 (awake_ev (m + 2000)) hm hit hz
    exact calls_of_ev Tryz.func7 (by kernel_rfl) rfl he h1
end Go.Proofs.YtlhjljplfmmoaaaGreatDoor.Ev
