/- KeyingNotation: from an evaluation to a call; from what an argument's type says to the evaluator's data. -/
import Derived.Test.YtlhjljplfmmoaaaGreatDoorC4
import Derived.Test.YtlhjljplfmmoaaaGreatDoorB1
import Derived.Test.YtlhjljplfmmoaaaGreatDoorN23
import Derived.Test.YtlhjljplfmmoaaaGreatDoorAw
import Derived.Stop.LaidErr
import Derived.Deep.DeepHandedRow
import Derived.Test.YtlhjljplfmmoaaaGreatDoorM3
import Derived.Test.YtlhjljplfmmoaaaGreatDoorFB
set_option linter.unusedSimpArgs false
set_option linter.unusedVariables false
namespace Go.Proofs.YtlhjljplfmmoaaaGreatDoor.Ev
open Go Go.RowKit Go.Shelf Go.Proofs
set_option maxRecDepth 100000
theorem calls_of_ev {f : FuncId} {fn : Func} {c : Code} (hfn : Tryz.prog.funcs[f]? = some fn) (hname : (fn.name == "runtime.NumGoroutine") = false) (hb : fn.body = some c) {n : Nat} {ps : List PV} (h : (ev Tryz.prog tab n).callA f ps = some [.val (.bool true)])
    {W : World} (ht : PowTab W) {args : Array Value} (hR : RepVL (inW W) W ps args.toList) : Calls Tryz.prog f args W fun e W' => e = .returned (.bool true) ∧ Below W.heap.size W W' := by
  have hS := sound (P := Tryz.prog) (by kernel_rfl) (Nat.le_refl W.heap.size) (tab_ok ht (Nat.le_refl _)) n
  have h1 := hS.a f ps _ h (inW W) W args (Below.refl _ _) (fun b hb => hb) hR
  unfold Does at h1
  rw [enters_of hfn hname hb args W] at h1
  refine h1.mono ?_
  rintro e W' ⟨v, rfl, hb, hr⟩
  refine ⟨?_, hb⟩
  rcases hr with ⟨x, hx, hv⟩ | ⟨hne, _⟩
  · obtain rfl : PV.val (.bool true) = x := by simpa using hx
    obtain rfl := rep_val hv
    rfl
  · exact absurd rfl hne
section
variable {n : Nat} {cs xs : List PV}
theorem fits_i64 {t : TypeId} (h : Fits Tryz.prog (n + 1) t cs) (hu : Tryz.prog.underlying t = some (.int .i64)) : ∃ z, cs = [intP z] := by
  unfold Fits at h
  rw [hu] at h
  obtain ⟨m, rfl, _⟩ := h
  exact ⟨m, rfl⟩
theorem fits_str {t : TypeId} (h : Fits Tryz.prog (n + 1) t cs) (hu : Tryz.prog.underlying t = some .string) : ∃ s : ByteArray, cs = [strP s] ∧ s.size ≤ 140737488351232 := by
  unfold Fits at h
  rw [hu] at h
  obtain ⟨m, rfl, hm⟩ := h
  exact ⟨m, rfl, hm⟩
theorem fits_bool {t : TypeId} (h : Fits Tryz.prog (n + 1) t cs) (hu : Tryz.prog.underlying t = some .bool) : ∃ b, cs = [.val (.bool b)] := by
  unfold Fits at h
  rw [hu] at h
  exact h
theorem fits_ints {t e : TypeId} (h : Fits Tryz.prog (n + 2) t cs) (hu : Tryz.prog.underlying t = some (.slice e)) (he : Tryz.prog.underlying e = some (.int .i64)) (hb : Tryz.prog.bytesOf e = 8) : ∃ zs : List Int, cs = [.sl (zs.map intP)] ∧ zs.length * 8 ≤ 140737488351232 := by
  unfold Fits at h
  rw [hu] at h
  obtain ⟨xs, rfl, h7, h8, hx⟩ := h
  rw [hb] at h8
  have hag : isAggT Tryz.prog e = some false := by unfold isAggT; rw [he]
  have : ∃ zs : List Int, xs = zs.map intP := by
    clear h8 h7
    induction xs with
    | nil => exact ⟨[], rfl⟩
    | cons x t ih =>
      obtain ⟨zs, rfl⟩ := ih fun y hy => hx y (List.mem_cons_of_mem _ hy)
      obtain ⟨h1, h2⟩ := hx x List.mem_cons_self
      rcases h2 with ⟨h2, _⟩ | ⟨_, h2⟩
      · rw [hag] at h2; cases h2
      · obtain ⟨z, hz⟩ := fits_i64 h1 he
        rw [h2] at hz
        exact ⟨z :: zs, by rw [List.map_cons, List.cons.inj hz |>.1]⟩
  obtain ⟨zs, rfl⟩ := this
  exact ⟨zs, rfl, by rw [List.length_map] at h8; exact h8⟩
theorem fits_strs {t e : TypeId} (h : Fits Tryz.prog (n + 2) t cs) (hu : Tryz.prog.underlying t = some (.slice e)) (he : Tryz.prog.underlying e = some .string) (hb : Tryz.prog.bytesOf e = 16) : ∃ ss : List ByteArray, cs = [.sl (ss.map strP)] ∧ ss.length * 16 ≤ 140737488351232 ∧ ∀ s, s ∈ ss → s.size ≤ 140737488351232 := by
  unfold Fits at h
  rw [hu] at h
  obtain ⟨xs, rfl, h7, h8, hx⟩ := h
  rw [hb] at h8
  have hag : isAggT Tryz.prog e = some false := by unfold isAggT; rw [he]
  have : ∃ ss : List ByteArray, xs = ss.map strP ∧ ∀ s, s ∈ ss → s.size ≤ 140737488351232 := by
    clear h8 h7
    induction xs with
    | nil => exact ⟨[], rfl, fun s hs => by simp at hs⟩
    | cons x t ih =>
      obtain ⟨ss, rfl, hs⟩ := ih fun y hy => hx y (List.mem_cons_of_mem _ hy)
      obtain ⟨h1, h2⟩ := hx x List.mem_cons_self
      rcases h2 with ⟨h2, _⟩ | ⟨_, h2⟩
      · rw [hag] at h2; cases h2
      · obtain ⟨z, hz, hzs⟩ := fits_str h1 he
        rw [h2] at hz
        refine ⟨z :: ss, by rw [List.map_cons, List.cons.inj hz |>.1], fun s hm => ?_⟩
        rcases List.mem_cons.1 hm with rfl | hm
        · exact hzs
        · exact hs s hm
  obtain ⟨ss, rfl, hs⟩ := this
  exact ⟨ss, rfl, by rw [List.length_map] at h8; exact h8, hs⟩
theorem fitsV_str {x : PV} {t : TypeId} (h : FitsV Tryz.prog (n + 1) t x) (hu : Tryz.prog.underlying t = some .string) : ∃ s : ByteArray, x = strP s ∧ s.size ≤ 140737488351232 := by
  obtain ⟨h1, h2⟩ := h
  obtain ⟨s, hs, hz⟩ := fits_str h1 hu
  rcases h2 with ⟨h2, _⟩ | ⟨_, h2⟩
  · unfold isAggT at h2; rw [hu] at h2; cases h2
  · rw [h2] at hs
    exact ⟨s, List.cons.inj hs |>.1, hz⟩
theorem fitsAll2 {P : Program} {k : Nat} {t u : TypeId} (h : FitsAll P k [t, u] xs) : ∃ x y, xs = [x, y] ∧ FitsV P k t x ∧ FitsV P k u y := by
  match xs, h with
  | [x, y], h => exact ⟨x, y, rfl, h.1, h.2.1⟩
  | [x], h => exact h.2.elim
  | x :: y :: z :: t, h => exact nomatch h.2.2
theorem fitsAll3 {P : Program} {k : Nat} {t u v : TypeId} (h : FitsAll P k [t, u, v] xs) : ∃ x y z, xs = [x, y, z] ∧ FitsV P k t x ∧ FitsV P k u y ∧ FitsV P k v z := by
  match xs, h with
  | [x, y, z], h => exact ⟨x, y, z, rfl, h.1, h.2.1, h.2.2.1⟩
  | [x, y], h => exact h.2.2.elim
  | [x], h => exact h.2.elim
  | x :: y :: z :: w :: t, h => exact nomatch h.2.2.2
theorem max_size : ∀ ss : List ByteArray, ∃ m, ∀ s, s ∈ ss → s.size ≤ m
  | [] => ⟨0, fun s hs => by simp at hs⟩
  | x :: t => by
    obtain ⟨m, hm⟩ := max_size t
    refine ⟨x.size + m, fun s hs => ?_⟩
    rcases List.mem_cons.1 hs with rfl | hs
    · omega
    · have := hm s hs; omega
/-- An item. -/
theorem fitsV_item {x : PV} (h : FitsV Tryz.prog (n + 3) 25 x) : ∃ it : It, x = it.pv ∧ it.Fit 140737488351232 ∧ it.choices.length * 8 ≤ 140737488351232 ∧ ∃ m, it.Fit m := by
  obtain ⟨h1, h2⟩ := h
  unfold Fits at h1
  rw [Tryz.underlying25] at h1
  simp only [FitsFs] at h1
  obtain ⟨p1, q1, hx, _, f1, p2, q2, rfl, _, f2, p3, q3, rfl, _, f3, p4, q4, rfl, _, f4, p5, q5, rfl, _, f5, p6, q6, rfl, _, f6, p7, q7, rfl, _, f7, p8, q8, rfl, _, f8, p9, q9, rfl, _, f9, p10, q10, rfl, _, f10, p11, q11, rfl, _, f11, p12, q12, rfl, _, f12, p13, q13, rfl, _, f13, p14, q14, rfl, _, f14, p15, q15, rfl, _, f15, p16, q16, rfl, _, f16, p17, q17, rfl, _, f17, rfl⟩ := h1
  obtain ⟨id, rfl⟩ := fits_i64 f1 Tryz.underlying3
  obtain ⟨ver, rfl⟩ := fits_i64 f2 Tryz.underlying3
  obtain ⟨kind, rfl⟩ := fits_i64 f3 Tryz.underlying3
  obtain ⟨stem, rfl, zstem⟩ := fits_str f4 Tryz.underlying9
  obtain ⟨opts, rfl, zopts, zopts2⟩ := fits_strs f5 Tryz.underlying22 Tryz.underlying9 (by kernel_rfl)
  obtain ⟨choices, rfl, zchoices⟩ := fits_ints f6 Tryz.underlying23 Tryz.underlying3 (by kernel_rfl)
  obtain ⟨val, rfl⟩ := fits_i64 f7 Tryz.underlying3
  obtain ⟨tol, rfl⟩ := fits_i64 f8 Tryz.underlying3
  obtain ⟨texts, rfl, ztexts, ztexts2⟩ := fits_strs f9 Tryz.underlying22 Tryz.underlying9 (by kernel_rfl)
  obtain ⟨pts, rfl⟩ := fits_i64 f10 Tryz.underlying3
  obtain ⟨cont, rfl, zcont⟩ := fits_str f11 Tryz.underlying9
  obtain ⟨fam, rfl⟩ := fits_i64 f12 Tryz.underlying3
  obtain ⟨set, rfl⟩ := fits_i64 f13 Tryz.underlying3
  obtain ⟨words, rfl⟩ := fits_i64 f14 Tryz.underlying3
  obtain ⟨secs, rfl⟩ := fits_i64 f15 Tryz.underlying3
  obtain ⟨assets, rfl, zassets⟩ := fits_ints f16 Tryz.underlying23 Tryz.underlying3 (by kernel_rfl)
  obtain ⟨rub, rfl⟩ := fits_i64 f17 Tryz.underlying3
  obtain ⟨mo, hmo⟩ := max_size opts
  obtain ⟨mt, hmt⟩ := max_size texts
  refine ⟨⟨id, ver, kind, stem, opts, choices, val, tol, texts, pts, cont, fam, set, words, secs, assets, rub⟩, ?_, ?_, zchoices, stem.size + cont.size + opts.length + mo + choices.length + texts.length + mt + assets.length, ?_⟩
  · rcases h2 with ⟨_, c, rfl⟩ | ⟨h2, _⟩
    · exact congrArg PV.agg hx
    · unfold isAggT at h2; rw [Tryz.underlying25] at h2; cases h2
  · exact ⟨zstem, zcont, by show opts.length ≤ _; omega, zopts2, by show choices.length ≤ _; omega, by show texts.length ≤ _; omega, ztexts2, by show assets.length ≤ _; omega⟩
  · exact ⟨by show stem.size ≤ _; omega, by show cont.size ≤ _; omega, by show opts.length ≤ _; omega, fun s hs => by have := hmo s hs; omega, by show choices.length ≤ _; omega, by show texts.length ≤ _; omega, fun s hs => by have := hmt s hs; omega, by show assets.length ≤ _; omega⟩
end
theorem fitsV_ans {n : Nat} {x : PV} (h : FitsV Tryz.prog (n + 3) 27 x) : ∃ a : Ans, x = a.pv ∧ a.choices.length * 8 ≤ 140737488351232 ∧ a.text.size ≤ 140737488351232 := by
  obtain ⟨h1, h2⟩ := h
  unfold Fits at h1
  rw [Tryz.underlying27] at h1
  simp only [FitsFs] at h1
  obtain ⟨p1, q1, hx, _, f1, p2, q2, rfl, _, f2, p3, q3, rfl, _, f3, p4, q4, rfl, _, f4, p5, q5, rfl, _, f5, rfl⟩ := h1
  obtain ⟨item, rfl⟩ := fits_i64 f1 Tryz.underlying3
  obtain ⟨choices, rfl, zchoices⟩ := fits_ints f2 Tryz.underlying23 Tryz.underlying3 (by kernel_rfl)
  obtain ⟨value, rfl⟩ := fits_i64 f3 Tryz.underlying3
  obtain ⟨text, rfl, ztext⟩ := fits_str f4 Tryz.underlying9
  obtain ⟨om, rfl⟩ := fits_bool f5 Tryz.underlying4
  refine ⟨⟨item, choices, value, text, om⟩, ?_, zchoices, ztext⟩
  rcases h2 with ⟨_, c, rfl⟩ | ⟨h2, _⟩
  · exact congrArg PV.agg hx
  · unfold isAggT at h2; rw [Tryz.underlying27] at h2; cases h2
noncomputable def gP : Nat := (Tryz.prog.globalNamed "internal/strconv.uint64pow10").getD 0
noncomputable def tP : TypeId := ((Tryz.prog.globals[gP]?).map (·.type)).getD 0
noncomputable def eP : TypeId := match Tryz.prog.underlying tP with | some (.array _ e) => e | _ => 0
theorem gTab : Tryz.prog.globalNamed "internal/strconv.uint64pow10" = some gP := by kernel_rfl
theorem tab_data : (Rows.laid_internal_strconv_uint64pow10 : DataW Unit) = Lib.tabData .u64 Lib.pow10Tab := by kernel_rfl
theorem pow_of_laid {W : World} (h : laidMetH Tryz.prog Rows.keyingNotationUptoRow.laid W) : PowTab W := by
  rw [MakeChecks.laidMetH_plain _ _ _ (by kernel_rfl)] at h
  have h3 : laidMet Tryz.prog (("internal/strconv.uint64pow10", Lib.tabData .u64 Lib.pow10Tab) :: [("unicode/utf8.acceptRanges", Rows.laid_unicode_utf8_acceptRanges), ("unicode/utf8.first", Rows.laid_unicode_utf8_first)]) W := by
    rw [← tab_data]
    exact h.tail.tail
  exact Lib.tabIs_of_head gTab (t := tP) (by kernel_rfl) (n := 20) (e := eP) (by kernel_rfl) (by kernel_rfl) (by kernel_rfl) (by kernel_rfl) h3
theorem notation_law {H : Type} {enc : TypeId × Value → H} {base : Nat} {spare : Nat → Bool} {held : Bool} {ds : List (DataW H)} {ps : List MemPlace} (W : World) (args : Array Value) (xs : List PV) (ht : PowTab W)
    (h1 : RepVL (inW W) W xs args.toList) (h2 : FitsAll Tryz.prog 6 [25, 27, 9] xs) (hA : DataW.TrodAll enc Tryz.prog W base spare held [25, 27, 9] args.toList ds ps) (hk : Rows.uptoBulkAll ds ≤ 1048576) :
    Calls Tryz.prog 5 args W fun e W' => e = .returned (.bool true) ∧ RowKit.Below W.heap.size W W' := by
  obtain ⟨x, y, z, rfl, hx, hy, hz⟩ := fitsAll3 h2
  obtain ⟨it, rfl, hit, hc, m, hm⟩ := fitsV_item (n := 3) hx
  obtain ⟨a, rfl, _, _⟩ := fitsV_ans (n := 3) hy
  obtain ⟨s, rfl, _⟩ := fitsV_str (n := 5) hz Tryz.underlying9
  obtain ⟨b1, b2, b3⟩ := Bulk.bulk3 h1 hA
  have hl : s.data.toList.length = s.size := by rw [Array.length_toList]; rfl
  obtain ⟨M, hM1, hM2⟩ : ∃ M, 100000000 ≤ M ∧ m ≤ M := ⟨m + 100000000, Nat.le_add_left _ _, Nat.le_add_right _ _⟩
  have he := notation_ev M it a s.data.toList (awake_ev _) (fitUp hm hM2) (fitUp hit (by decide)) hc (by omega) (by omega) (by omega) hM1
  rw [← strL_eq] at he
  exact calls_of_ev Tryz.func5 (by kernel_rfl) rfl he ht h1
end Go.Proofs.YtlhjljplfmmoaaaGreatDoor.Ev
