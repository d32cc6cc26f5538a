/- The law KeyingPartial at several options, evaluated. -/
import Derived.Test.YtlhjljplfmmoaaaGreatDoorF60
namespace Go.Proofs.YtlhjljplfmmoaaaGreatDoor.Ev
open Go
set_option linter.unusedSimpArgs false
set_option linter.unusedVariables false
set_option maxRecDepth 10000
set_option maxHeartbeats 4000000
theorem sz27w : zeroT Tryz.prog 27 = some (.agg [.val (.int .i64 0), .nil, .val (.int .i64 0), .val (.string ⟨#[]⟩), .val (.bool false)]) := by kernel_rfl
attribute [local simp] sz27w
structure Two (ex i : Nat) (F L : List Int) : Prop where
  upF : upB F = true
  upL : upB L = true
  inF : ∀ x, x ∈ F → 0 ≤ x ∧ x < i
  inL : ∀ x, x ∈ L → 0 ≤ x ∧ x < i
  cnt : ∀ p : Int → Bool, cntB p L = cntB p F + (if ex < i then (if p ex = true then 1 else 0) else 0)
  len : L.length = F.length + (if ex < i then 1 else 0)
theorem cntB_snoc (p : Int → Bool) (x : Int) : ∀ l : List Int, cntB p (l ++ [x]) = cntB p l + (if p x = true then 1 else 0)
  | [] => by simp [cntB]
  | y :: t => by
    rw [List.cons_append]
    unfold cntB
    rw [cntB_snoc p x t]
    omega
theorem up_snoc {l : List Int} {x : Int} (h : upB l = true) (hx : ∀ y, y ∈ l → y < x) : upB (l ++ [x]) = true := by
  unfold upB
  rw [List.all_eq_true]
  intro i hi
  rw [List.mem_range, List.length_append, List.length_singleton] at hi
  unfold upAt
  by_cases h0 : i = 0
  · simp [h0]
  · by_cases hlt : i < l.length
    · have := List.all_eq_true.1 h i (List.mem_range.2 hlt)
      unfold upAt at this
      rw [List.getElem?_append_left hlt, List.getElem?_append_left (by omega)]
      exact this
    · have hi' : i = l.length := by omega
      obtain ⟨y, hy⟩ : ∃ y, l[i - 1]? = some y := ⟨l[i - 1], by simp⟩
      rw [List.getElem?_append_left (show i - 1 < l.length by omega), hy, hi']
      simp [hx y (List.mem_of_getElem? hy)]
theorem two_none {ex i : Nat} {F L : List Int} (h : Two ex i F L) (hne : i ≠ ex) : Two ex (i + 1) F L := by
  have he : (ex < i + 1) = (ex < i) := by apply propext; omega
  exact ⟨h.upF, h.upL, fun x hx => ⟨(h.inF x hx).1, by have := (h.inF x hx).2; push_cast; omega⟩, fun x hx => ⟨(h.inL x hx).1, by have := (h.inL x hx).2; push_cast; omega⟩, by simp only [he]; exact h.cnt, by simp only [he]; exact h.len⟩
theorem two_both {ex i : Nat} {F L : List Int} (h : Two ex i F L) (hne : i ≠ ex) : Two ex (i + 1) (F ++ [(i : Int)]) (L ++ [(i : Int)]) := by
  have he : (ex < i + 1) = (ex < i) := by apply propext; omega
  refine ⟨up_snoc h.upF fun y hy => (h.inF y hy).2, up_snoc h.upL fun y hy => (h.inL y hy).2, fun x hx => ?_, fun x hx => ?_, fun p => ?_, ?_⟩
  · rcases List.mem_append.1 hx with hx | hx
    · have := h.inF x hx; push_cast; omega
    · have : x = i := by simpa using hx
      push_cast; omega
  · rcases List.mem_append.1 hx with hx | hx
    · have := h.inL x hx; push_cast; omega
    · have : x = i := by simpa using hx
      push_cast; omega
  · rw [cntB_snoc, cntB_snoc, h.cnt p]
    simp only [he]
    omega
  · have := h.len
    simp only [he, List.length_append, List.length_singleton]
    omega
theorem two_extra {i : Nat} {F L : List Int} (h : Two i i F L) : Two i (i + 1) F (L ++ [(i : Int)]) := by
  refine ⟨h.upF, up_snoc h.upL fun y hy => (h.inL y hy).2, fun x hx => ?_, fun x hx => ?_, fun p => ?_, ?_⟩
  · have := h.inF x hx; push_cast; omega
  · rcases List.mem_append.1 hx with hx | hx
    · have := h.inL x hx; push_cast; omega
    · have : x = i := by simpa using hx
      push_cast; omega
  · rw [cntB_snoc, h.cnt p, if_neg (Nat.lt_irrefl i), if_pos (Nat.lt_succ_self i)]
    rfl
  · have := h.len
    rw [if_neg (Nat.lt_irrefl i)] at this
    rw [if_pos (Nat.lt_succ_self i), List.length_append, List.length_singleton]
    omega
theorem two_start (ex : Nat) : Two ex 0 [] [] := ⟨rfl, rfl, fun x hx => by simp at hx, fun x hx => by simp at hx, fun p => by simp, by simp⟩
theorem len_le {l : List Int} (h : upB l = true) {n : Nat} (hin : ∀ x, x ∈ l → 0 ≤ x ∧ x < n) : l.length ≤ n :=
  up_length (List.all_eq_true.2 fun x hx => by have := hin x hx; simp [inB]; omega) h
theorem partial_multi (n : Nat) (id ver val tol pts fam set words secs rub : Int) (stem cont : ByteArray) (opts texts : List ByteArray) (choices assets : List Int) (bits more : Int) (hm0 : 0 ≤ more) (hm1 : more ≤ 255) (ho : 0 < opts.length) (ho2 : opts.length ≤ 10) (hc : choices.length ≤ 1000) (hn : 1000 ≤ n)
    (w16 : (ev Tryz.prog tab n).callA 16 [It.pv ⟨id, ver, 2, stem, opts, choices, val, tol, texts, pts, cont, fam, set, words, secs, assets, rub⟩] = some [intP 0]) (w15 : (ev Tryz.prog tab n).callA 15 [] = some [.val (.bool true)]) (N : List Int → Int)
    (w8 : ∀ l : List Int, upB l = true → (∀ x, x ∈ l → 0 ≤ x ∧ x < opts.length) → (ev Tryz.prog tab n).callA 8 [It.pv ⟨id, ver, 2, stem, opts, choices, val, tol, texts, pts, cont, fam, set, words, secs, assets, rub⟩, Ans.pv ⟨id, l, 0, ⟨#[]⟩, false⟩] = some [intP (N l), intP 0])
    (hN : ∀ (ex : Nat) F L, ex < opts.length → Two ex opts.length F L → (memB choices ex = true → N F ≤ N L) ∧ (memB choices ex = false → N L ≤ N F)) :
    (ev Tryz.prog tab (n + 1)).callA 7 [It.pv ⟨id, ver, 2, stem, opts, choices, val, tol, texts, pts, cont, fam, set, words, secs, assets, rub⟩, .val (.int .u16 bits), .val (.int .u8 more)] = some [.val (.bool true)] := by
  have hq : ∀ z : Int, intP z = .val (.int .i64 z) := fun _ => rfl
  simp only [It.pv, Ans.pv, hq] at w8 w16
  obtain ⟨ex, hex⟩ : ∃ ex : Nat, more.tmod opts.length = ex := ⟨(more.tmod opts.length).toNat, by have := Int.tmod_nonneg (opts.length : Int) hm0; omega⟩
  have hexl : ex < opts.length := by
    have := Int.tmod_lt_of_pos more (show (0 : Int) < opts.length by omega)
    omega
  have hwm : IntKind.i64.wrap more = more := wrap_i64 (by omega) (by omega)
  have ho0 : ¬ (opts.length : Int) = 0 := by omega
  have hon : ¬ opts = [] := by rintro rfl; simp at ho
  rw [callA_fn rfl Tryz.func7 rfl rfl rfl]
  simp [-frame, Tryz.f7, It.pv, hq, w16, hwm, hex, ho0, hon]
  refine loop_rule (fun d st => ∃ (i : Nat) (F L : List Int) (b12 b13 : TV) (so : Store) (a : List (Nat × TV)), st = { tm := frameOf 165 a, sus := [], so := so } ∧ look a 3 = .ptr 3 0 0 ∧ look a 6 = .val (.bool false) ∧ look a 1 = .val (.int .u16 bits) ∧ look a 11 = .val (.int .i64 ex) ∧ look a 14 = .val (.bool false) ∧ look a 76 = .val (.int .i64 opts.length) ∧ look a 77 = .val (.int .i64 i) ∧ look a 12 = b12 ∧ look a 13 = b13 ∧ d = opts.length - i ∧ i ≤ opts.length ∧ Two ex i F L ∧
    ((F = [] ∧ L = [] ∧ b12 = .nil ∧ b13 = .nil ∧ so = [(3, .box [TV.val (.int .i64 id), TV.val (.int .i64 ver), .val (.int .i64 2), .val (.string stem), .sl (opts.map strP), .sl (choices.map intP), .val (.int .i64 val), .val (.int .i64 tol), .sl (texts.map strP), .val (.int .i64 pts), .val (.string cont), .val (.int .i64 fam), .val (.int .i64 set), .val (.int .i64 words), .val (.int .i64 secs), .sl (assets.map intP), .val (.int .i64 rub)])]) ∨ (F = [] ∧ b12 = .nil ∧ b13 = .row 105 0 L.length ∧ ∃ y, so = [(3, .box [TV.val (.int .i64 id), TV.val (.int .i64 ver), .val (.int .i64 2), .val (.string stem), .sl (opts.map strP), .sl (choices.map intP), .val (.int .i64 val), .val (.int .i64 tol), .sl (texts.map strP), .val (.int .i64 pts), .val (.string cont), .val (.int .i64 fam), .val (.int .i64 set), .val (.int .i64 words), .val (.int .i64 secs), .sl (assets.map intP), .val (.int .i64 rub)]), (104, .row 3 [.val (.int .i64 y)]), (105, .row 3 (L.map intP))]) ∨
     (b12 = .row 95 0 F.length ∧ b13 = .row 105 0 L.length ∧ ∃ x y, so = [(3, .box [TV.val (.int .i64 id), TV.val (.int .i64 ver), .val (.int .i64 2), .val (.string stem), .sl (opts.map strP), .sl (choices.map intP), .val (.int .i64 val), .val (.int .i64 tol), .sl (texts.map strP), .val (.int .i64 pts), .val (.string cont), .val (.int .i64 fam), .val (.int .i64 set), .val (.int .i64 words), .val (.int .i64 secs), .sl (assets.map intP), .val (.int .i64 rub)]), (94, .row 3 [.val (.int .i64 x)]), (95, .row 3 (F.map intP)), (104, .row 3 [.val (.int .i64 y)]), (105, .row 3 (L.map intP))]))) ?_ _ opts.length _ (by omega) ⟨0, [], [], _, _, _, _, rfl, by simp, by simp, by simp, by simp, by simp, by simp, by simp, by simp, by simp, rfl, by omega, two_start ex, .inl ⟨rfl, rfl, rfl, rfl, rfl⟩⟩
  rintro d st m ⟨i, F, L, b12, b13, so, a, rfl, h3, h6, h1, h11, h14, h76, h77, h12, h13, rfl, hi, h2, hs⟩ ih
  have hlF := len_le h2.upF h2.inF
  have hlL := len_le h2.upL h2.inL
  have hsF := sized_int F
  have hsL := sized_int L
  have htF : List.take F.length (F.map intP) = F.map intP := List.take_of_length_le (by simp)
  have htL : List.take L.length (L.map intP) = L.map intP := List.take_of_length_le (by simp)
  by_cases hlt : i < opts.length
  · have hw := wrap_succ hlt (by omega)
    have hd : decide ((i : Int) < opts.length) = true := by simp [hlt]
    have hwu : IntKind.u64.wrap (i : Int) = i := by
      simp only [IntKind.wrap, IntKind.bits, IntKind.signed, Bool.false_and, Bool.false_eq_true, if_false]
      omega
    have b1 : F.length ≤ 9223372036854775806 := by omega
    have b2 : (F.length + 1) * 8 ≤ 140737488355328 := by omega
    have b3 : L.length ≤ 9223372036854775806 := by omega
    have b4 : (L.length + 1) * 8 ≤ 140737488355328 := by omega
    have hi0 : ¬ (i : Int) < 0 := by omega
    by_cases he : i = ex
    · subst he
      rcases hs with ⟨rfl, rfl, rfl, rfl, rfl⟩ | ⟨rfl, rfl, rfl, y, rfl⟩ | ⟨rfl, rfl, x, y, rfl⟩
      · simp [-frame, -getElem?_pos, Tryz.underlying44, Tryz.underlying45, h3, h6, h1, h11, h14, h76, h77, h12, h13, hd, hlt, hw, hwu, hq, hi0, hsF, hsL, b1, b2, b3, b4]
        refine test_cases ?_ ?_ <;> intro h
        · simp [-frame, -getElem?_pos, Tryz.underlying44, Tryz.underlying45, h3, h6, h1, h11, h14, h76, h77, h12, h13, hd, hlt, hw, hwu, hq, hi0, hsF, hsL, b1, b2, b3, b4, h]
          exact ih _ _ (by omega) ⟨i + 1, [], [] ++ [(i : Int)], .nil, .row 105 0 ([] ++ [(i : Int)]).length, _, _, rfl, by simp [h3], by simp [h6], by simp [h1], by simp [h11], by simp [h14], by simp [h76], by simp, by simp [h12], by simp, rfl, by omega, two_extra h2, .inr (.inl ⟨rfl, rfl, rfl, _, rfl⟩)⟩
        · simp [-frame, -getElem?_pos, Tryz.underlying44, Tryz.underlying45, h3, h6, h1, h11, h14, h76, h77, h12, h13, hd, hlt, hw, hwu, hq, hi0, hsF, hsL, b1, b2, b3, b4, h]
          exact ih _ _ (by omega) ⟨i + 1, [], [] ++ [(i : Int)], .nil, .row 105 0 ([] ++ [(i : Int)]).length, _, _, rfl, by simp [h3], by simp [h6], by simp [h1], by simp [h11], by simp [h14], by simp [h76], by simp, by simp [h12], by simp, rfl, by omega, two_extra h2, .inr (.inl ⟨rfl, rfl, rfl, _, rfl⟩)⟩
      · simp [-frame, -getElem?_pos, Tryz.underlying44, Tryz.underlying45, h3, h6, h1, h11, h14, h76, h77, h12, h13, hd, hlt, hw, hwu, hq, hi0, hsF, hsL, b1, b2, b3, b4]
        refine test_cases ?_ ?_ <;> intro h
        · simp [-frame, -getElem?_pos, Tryz.underlying44, Tryz.underlying45, h3, h6, h1, h11, h14, h76, h77, h12, h13, hd, hlt, hw, hwu, hq, hi0, hsF, hsL, b1, b2, b3, b4, h]
          exact ih _ _ (by omega) ⟨i + 1, [], L ++ [(i : Int)], .nil, .row 105 0 (L ++ [(i : Int)]).length, _, _, rfl, by simp [h3], by simp [h6], by simp [h1], by simp [h11], by simp [h14], by simp [h76], by simp, by simp [h12], by simp, rfl, by omega, two_extra h2, .inr (.inl ⟨rfl, rfl, rfl, _, by simp only [List.map_append]; rfl⟩)⟩
        · simp [-frame, -getElem?_pos, Tryz.underlying44, Tryz.underlying45, h3, h6, h1, h11, h14, h76, h77, h12, h13, hd, hlt, hw, hwu, hq, hi0, hsF, hsL, b1, b2, b3, b4, h]
          exact ih _ _ (by omega) ⟨i + 1, [], L ++ [(i : Int)], .nil, .row 105 0 (L ++ [(i : Int)]).length, _, _, rfl, by simp [h3], by simp [h6], by simp [h1], by simp [h11], by simp [h14], by simp [h76], by simp, by simp [h12], by simp, rfl, by omega, two_extra h2, .inr (.inl ⟨rfl, rfl, rfl, _, by simp only [List.map_append]; rfl⟩)⟩
      · simp [-frame, -getElem?_pos, Tryz.underlying44, Tryz.underlying45, h3, h6, h1, h11, h14, h76, h77, h12, h13, hd, hlt, hw, hwu, hq, hi0, hsF, hsL, b1, b2, b3, b4]
        refine test_cases ?_ ?_ <;> intro h
        · simp [-frame, -getElem?_pos, Tryz.underlying44, Tryz.underlying45, h3, h6, h1, h11, h14, h76, h77, h12, h13, hd, hlt, hw, hwu, hq, hi0, hsF, hsL, b1, b2, b3, b4, h]
          exact ih _ _ (by omega) ⟨i + 1, F, L ++ [(i : Int)], .row 95 0 (F).length, .row 105 0 (L ++ [(i : Int)]).length, _, _, rfl, by simp [h3], by simp [h6], by simp [h1], by simp [h11], by simp [h14], by simp [h76], by simp, by simp [h12], by simp, rfl, by omega, two_extra h2, .inr (.inr ⟨rfl, rfl, _, _, by simp only [List.map_append]; rfl⟩)⟩
        · simp [-frame, -getElem?_pos, Tryz.underlying44, Tryz.underlying45, h3, h6, h1, h11, h14, h76, h77, h12, h13, hd, hlt, hw, hwu, hq, hi0, hsF, hsL, b1, b2, b3, b4, h]
          exact ih _ _ (by omega) ⟨i + 1, F, L ++ [(i : Int)], .row 95 0 (F).length, .row 105 0 (L ++ [(i : Int)]).length, _, _, rfl, by simp [h3], by simp [h6], by simp [h1], by simp [h11], by simp [h14], by simp [h76], by simp, by simp [h12], by simp, rfl, by omega, two_extra h2, .inr (.inr ⟨rfl, rfl, _, _, by simp only [List.map_append]; rfl⟩)⟩
    · have he2 : ¬ (i : Int) = (ex : Int) := by omega
      rcases hs with ⟨rfl, rfl, rfl, rfl, rfl⟩ | ⟨rfl, rfl, rfl, y, rfl⟩ | ⟨rfl, rfl, x, y, rfl⟩
      · simp [-frame, -getElem?_pos, Tryz.underlying44, Tryz.underlying45, h3, h6, h1, h11, h14, h76, h77, h12, h13, hd, hlt, hw, hwu, hq, hi0, hsF, hsL, b1, b2, b3, b4, he, he2]
        refine test_cases ?_ ?_ <;> intro h
        · simp [-frame, -getElem?_pos, Tryz.underlying44, Tryz.underlying45, h3, h6, h1, h11, h14, h76, h77, h12, h13, hd, hlt, hw, hwu, hq, hi0, hsF, hsL, b1, b2, b3, b4, he, he2, h]
          exact ih _ _ (by omega) ⟨i + 1, [] ++ [(i : Int)], [] ++ [(i : Int)], .row 95 0 ([] ++ [(i : Int)]).length, .row 105 0 ([] ++ [(i : Int)]).length, _, _, rfl, by simp [h3], by simp [h6], by simp [h1], by simp [h11], by simp [h14], by simp [h76], by simp, by simp, by simp, rfl, by omega, two_both h2 he, .inr (.inr ⟨rfl, rfl, _, _, rfl⟩)⟩
        · simp [-frame, -getElem?_pos, Tryz.underlying44, Tryz.underlying45, h3, h6, h1, h11, h14, h76, h77, h12, h13, hd, hlt, hw, hwu, hq, hi0, hsF, hsL, b1, b2, b3, b4, he, he2, h]
          exact ih _ _ (by omega) ⟨i + 1, [], [], .nil, .nil, _, _, rfl, by simp [h3], by simp [h6], by simp [h1], by simp [h11], by simp [h14], by simp [h76], by simp, by simp [h12], by simp [h13], rfl, by omega, two_none h2 he, .inl ⟨rfl, rfl, rfl, rfl, rfl⟩⟩
      · simp [-frame, -getElem?_pos, Tryz.underlying44, Tryz.underlying45, h3, h6, h1, h11, h14, h76, h77, h12, h13, hd, hlt, hw, hwu, hq, hi0, hsF, hsL, b1, b2, b3, b4, he, he2]
        refine test_cases ?_ ?_ <;> intro h
        · simp [-frame, -getElem?_pos, Tryz.underlying44, Tryz.underlying45, h3, h6, h1, h11, h14, h76, h77, h12, h13, hd, hlt, hw, hwu, hq, hi0, hsF, hsL, b1, b2, b3, b4, he, he2, h]
          exact ih _ _ (by omega) ⟨i + 1, [] ++ [(i : Int)], L ++ [(i : Int)], .row 95 0 ([] ++ [(i : Int)]).length, .row 105 0 (L ++ [(i : Int)]).length, _, _, rfl, by simp [h3], by simp [h6], by simp [h1], by simp [h11], by simp [h14], by simp [h76], by simp, by simp, by simp, rfl, by omega, two_both h2 he, .inr (.inr ⟨rfl, rfl, _, _, by simp only [List.map_append]; rfl⟩)⟩
        · simp [-frame, -getElem?_pos, Tryz.underlying44, Tryz.underlying45, h3, h6, h1, h11, h14, h76, h77, h12, h13, hd, hlt, hw, hwu, hq, hi0, hsF, hsL, b1, b2, b3, b4, he, he2, h]
          exact ih _ _ (by omega) ⟨i + 1, [], L, .nil, .row 105 0 (L).length, _, _, rfl, by simp [h3], by simp [h6], by simp [h1], by simp [h11], by simp [h14], by simp [h76], by simp, by simp [h12], by simp [h13], rfl, by omega, two_none h2 he, .inr (.inl ⟨rfl, rfl, rfl, _, rfl⟩)⟩
      · simp [-frame, -getElem?_pos, Tryz.underlying44, Tryz.underlying45, h3, h6, h1, h11, h14, h76, h77, h12, h13, hd, hlt, hw, hwu, hq, hi0, hsF, hsL, b1, b2, b3, b4, he, he2]
        refine test_cases ?_ ?_ <;> intro h
        · simp [-frame, -getElem?_pos, Tryz.underlying44, Tryz.underlying45, h3, h6, h1, h11, h14, h76, h77, h12, h13, hd, hlt, hw, hwu, hq, hi0, hsF, hsL, b1, b2, b3, b4, he, he2, h]
          exact ih _ _ (by omega) ⟨i + 1, F ++ [(i : Int)], L ++ [(i : Int)], .row 95 0 (F ++ [(i : Int)]).length, .row 105 0 (L ++ [(i : Int)]).length, _, _, rfl, by simp [h3], by simp [h6], by simp [h1], by simp [h11], by simp [h14], by simp [h76], by simp, by simp, by simp, rfl, by omega, two_both h2 he, .inr (.inr ⟨rfl, rfl, _, _, by simp only [List.map_append]; rfl⟩)⟩
        · simp [-frame, -getElem?_pos, Tryz.underlying44, Tryz.underlying45, h3, h6, h1, h11, h14, h76, h77, h12, h13, hd, hlt, hw, hwu, hq, hi0, hsF, hsL, b1, b2, b3, b4, he, he2, h]
          exact ih _ _ (by omega) ⟨i + 1, F, L, .row 95 0 (F).length, .row 105 0 (L).length, _, _, rfl, by simp [h3], by simp [h6], by simp [h1], by simp [h11], by simp [h14], by simp [h76], by simp, by simp [h12], by simp [h13], rfl, by omega, two_none h2 he, .inr (.inr ⟨rfl, rfl, _, _, rfl⟩)⟩
  · obtain rfl : i = opts.length := by omega
    clear ih
    obtain ⟨hNa, hNb⟩ := hN ex F L hexl h2
    have wF := w8 F h2.upF h2.inF
    have wL := w8 L h2.upL h2.inL
    have hbox : Store.get so 3 = some (.box [TV.val (.int .i64 id), TV.val (.int .i64 ver), .val (.int .i64 2), .val (.string stem), .sl (opts.map strP), .sl (choices.map intP), .val (.int .i64 val), .val (.int .i64 tol), .sl (texts.map strP), .val (.int .i64 pts), .val (.string cont), .val (.int .i64 fam), .val (.int .i64 set), .val (.int .i64 words), .val (.int .i64 secs), .sl (assets.map intP), .val (.int .i64 rub)]) := by rcases hs with ⟨_, _, _, _, rfl⟩ | ⟨_, _, _, y, rfl⟩ | ⟨_, _, x, y, rfl⟩ <;> rfl
    simp [-frame, h3, h6, h1, h11, h14, h76, h77, h12, h13, hbox]
    refine loop_rule (fun d st => ∃ (j : Nat) (a2 : List (Nat × TV)), st = { tm := frameOf 165 a2, sus := [], so := so } ∧ look a2 3 = .ptr 3 0 0 ∧ look a2 6 = .val (.bool false) ∧ look a2 11 = .val (.int .i64 ex) ∧ look a2 12 = b12 ∧ look a2 13 = b13 ∧ look a2 108 = .sl (choices.map intP) ∧ look a2 109 = .val (.int .i64 choices.length) ∧ look a2 110 = .val (.int .i64 j) ∧ look a2 14 = .val (.bool ((choices.take j).any (fun x => decide (x = (ex : Int))))) ∧ d = choices.length - j ∧ j ≤ choices.length) ?_ _ choices.length _ (by omega) ⟨0, _, rfl, by simp [h3], by simp [h6], by simp [h11], by simp [h12], by simp [h13], by simp, by simp, by simp, by simp [h14], rfl, by omega⟩
    · clear h3 h6 h1 h11 h14 h76 h77 h12 h13
      rintro d st m2 ⟨j, a2, rfl, h3, h6, h11, h12, h13, h108, h109, h110, h14, rfl, hj⟩ ih
      by_cases hlt : j < choices.length
      · obtain ⟨z, hz⟩ : ∃ z, choices[j]? = some z := ⟨choices[j], by simp⟩
        have hw := wrap_succ hlt (by omega)
        have hd : decide ((j : Int) < choices.length) = true := by simp [hlt]
        have hat : (choices.take (j + 1)).any (fun x => decide (x = (ex : Int))) = ((choices.take j).any (fun x => decide (x = (ex : Int))) || decide (z = (ex : Int))) := by
          rw [List.take_add_one, hz, List.any_append]
          simp
        cases hb : (choices.take j).any (fun x => decide (x = (ex : Int))) with
        | true =>
          rw [hb] at h14 hat
          simp [-frame, -getElem?_pos, h3, h6, h11, h108, h109, h110, h14, hd, hz, hlt, hw, hq]
          exact ih _ _ (by omega) ⟨j + 1, _, rfl, by simp [h3], by simp [h6], by simp [h11], by simp [h12], by simp [h13], by simp [h108], by simp [h109], by simp, by simp [hat], rfl, by omega⟩
        | false =>
          rw [hb] at h14 hat
          simp [-frame, -getElem?_pos, h3, h6, h11, h108, h109, h110, h14, hd, hz, hlt, hw, hq]
          exact ih _ _ (by omega) ⟨j + 1, _, rfl, by simp [h3], by simp [h6], by simp [h11], by simp [h12], by simp [h13], by simp [h108], by simp [h109], by simp, by simp [hat], rfl, by omega⟩
      · obtain rfl : j = choices.length := by omega
        have hmem : choices.any (fun x => decide (x = (ex : Int))) = memB choices ex := by
          unfold memB
          congr 1
          funext x
          by_cases hxe : x = (ex : Int)
          · simp [hxe]
          · simp [hxe, Ne.symm hxe]
        rw [List.take_length, hmem] at h14
        cases hb : memB choices ex with
        | true =>
          rw [hb] at h14
          have hN1 := hNa hb
          rcases hs with ⟨rfl, rfl, rfl, rfl, rfl⟩ | ⟨rfl, rfl, rfl, y, rfl⟩ | ⟨rfl, rfl, x, y, rfl⟩
          · simp only [List.map_nil] at wF wL
            simp [-frame, h3, h6, h11, h108, h109, h110, h14, h12, h13, wF, wL, w15, hN1]
          · simp only [List.map_nil] at wF
            simp [-frame, h3, h6, h11, h108, h109, h110, h14, h12, h13, htL, wF, wL, w15, hN1]
          · simp [-frame, h3, h6, h11, h108, h109, h110, h14, h12, h13, htF, htL, wF, wL, w15, hN1]
        | false =>
          rw [hb] at h14
          have hN1 := hNb hb
          rcases hs with ⟨rfl, rfl, rfl, rfl, rfl⟩ | ⟨rfl, rfl, rfl, y, rfl⟩ | ⟨rfl, rfl, x, y, rfl⟩
          · simp only [List.map_nil] at wF wL
            simp [-frame, h3, h6, h11, h108, h109, h110, h14, h12, h13, wF, wL, w15, hN1]
          · simp only [List.map_nil] at wF
            simp [-frame, h3, h6, h11, h108, h109, h110, h14, h12, h13, htL, wF, wL, w15, hN1]
          · simp [-frame, h3, h6, h11, h108, h109, h110, h14, h12, h13, htF, htL, wF, wL, w15, hN1]
end Go.Proofs.YtlhjljplfmmoaaaGreatDoor.Ev
