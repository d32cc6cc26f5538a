/- The law KeyingNotation holds of every input of bulk at most 1048576: its card, out of its row, out of one evaluation. -/
import Derived.Test.YtlhjljplfmmoaaaGreatDoorRowN
import Derived.Test.YtlhjljplfmmoaaaGreatDoorCards
import Derived.Test.YtlhjljplfmmoaaaGreatDoorTie
namespace Go.Proofs.YtlhjljplfmmoaaaGreatDoor
open Go Go.RowKit Go.ChangeShapes Go.WideShapes Go.ChangeAt Ev
theorem own : ownKnob Tryz.prog.godebug = none := by kernel_rfl
theorem laidOut : laidOutB Tryz.prog = true := by kernel_rfl
abbrev laid : List (String × DataW Unit) := Rows.keyingNotationUptoRow.laid
noncomputable def zeroArgs : Array Value := #[((Tryz.prog.info? 25).bind (·.zero)).getD (.bool false), ((Tryz.prog.info? 27).bind (·.zero)).getD (.bool false), ((Tryz.prog.info? 9).bind (·.zero)).getD (.bool false)]
theorem reads (os : Os) {H : Type} (enc : TypeId × Value → H) : ∃ places, DataW.whole enc Tryz.prog ((World.laidAll Tryz.prog os laid).forCall (fun _ _ => 0) ⟨#[], zeroArgs, []⟩).memory Tryz.f5.params.toList Rows.keyingNotationSpec.vars false zeroArgs.toList 8 =
    some ([.agg [.lit (.int .i64 0), .lit (.int .i64 0), .lit (.int .i64 0), .lit (.string []), .nil, .nil, .lit (.int .i64 0), .lit (.int .i64 0), .nil, .lit (.int .i64 0), .lit (.string []), .lit (.int .i64 0), .lit (.int .i64 0), .lit (.int .i64 0), .lit (.int .i64 0), .nil, .lit (.int .i64 0)],
      .agg [.lit (.int .i64 0), .nil, .lit (.int .i64 0), .lit (.string []), .lit (.bool false)], .lit (.string [])], [], places) :=
  ⟨[], by kernel_rfl⟩
set_option maxRecDepth 100000 in
theorem lifted (os : Os) (started : os.Started) (H : Type) (enc : TypeId × Value → H) (F : Stop.Interp) :
    ReturnsInHanded {} Tryz.checked os 5 .any ((Rows.OpenSpec.upto Rows.keyingNotationSpec).preRow enc Tryz.prog Tryz.f5 Rows.keyingNotationUptoRow.domain false laid) (((Rows.OpenSpec.upto Rows.keyingNotationSpec).at F).post enc Tryz.prog Tryz.f5 false true false false) := by
  obtain ⟨places, hx⟩ := reads os enc
  refine returnsInHanded_of_row (C := Tryz.checked) (s := Rows.OpenSpec.upto Rows.keyingNotationSpec) own started (by kernel_rfl) Tryz.func5
    (witness_row_at (enc := enc) (C := Tryz.checked) false (World.laidAll Tryz.prog os laid) zeroArgs (World.laidAll_os _ _ _) (by kernel_rfl) (by kernel_rfl) (by kernel_rfl)
      (OpenSpec.preRow_of_cond 8 hx (by kernel_rfl) (fun k hk => by cases hk; kernel_rfl) (by kernel_rfl)
        (by rw [MakeChecks.laidMetH_plain _ _ _ (by kernel_rfl)]; exact laidMet_laidAll _ (by kernel_rfl) (by kernel_rfl)))) ?_
  intro W base args ds gs before hval0 hW _ hcond hsz hL _ _
  have hk0 : Rows.uptoSmall H (ds ++ gs) = true := hcond _ rfl
  have hW' := hW
  obtain ⟨p, q, hA0, hV, rfl, _, _⟩ := hW
  have hA : DataW.TrodAll enc Tryz.prog W 0 (fun _ => true) true [25, 27, 9] args.toList ds p := hA0
  have hval : ∀ (j : Nat) t v, ([25, 27, 9] : List TypeId)[j]? = some t → args.toList[j]? = some v → Value.okWide Tryz.prog W .any base t v := fun j t v hj hv => hval0 j t v (by rw [Tryz.params5]; simpa using hj) (by simpa using hv)
  obtain ⟨rfl, rfl⟩ := trodVars_none hV
  have hsz' : (DataW.weightsEach Tryz.prog [25, 27, 9] ds).all (· ≤ reachBytes) = true := by
    have h := hsz
    rw [List.append_nil] at h
    exact h
  obtain ⟨xs, h1, h2⟩ := args_read (n := 6) _ _ _ _ (by kernel_rfl) hsz' hval hA
  have hds : ∃ d1 d2 d3, ds = [d1, d2, d3] := by
    obtain ⟨v0, vs0, d0, ds0, p0, q0, _, rfl, _, _, r0⟩ := trodAll_cons hA
    obtain ⟨v1, vs1, d1, ds1, p1, q1, _, rfl, _, _, r1⟩ := trodAll_cons r0
    obtain ⟨v2, vs2, d2, ds2, p2, q2, _, rfl, _, _, r2⟩ := trodAll_cons r1
    obtain ⟨_, rfl, _⟩ := trodAll_nil r2
    exact ⟨_, _, _, rfl⟩
  obtain ⟨d1, d2, d3, rfl⟩ := hds
  have hk : Rows.uptoBulkAll [d1, d2, d3] ≤ 1048576 := by
    rw [List.append_nil] at hk0
    exact of_decide_eq_true hk0
  refine (notation_law W args xs (pow_of_laid hL) h1 h2 hA hk).mono fun e W' ⟨he, hb⟩ => ⟨.bool true, he, ?_⟩
  exact ⟨_, _, _, [], _, [], hW', trodAll_mk1 (shut_bool Tryz.underlying4 true), trodAll_below laidOut hb _ _ _ _ (by kernel_rfl) hA, rfl, hb.frame _, fun h => by cases h⟩
theorem row_holds : Rows.KeyingNotationUptoSaid :=
  OpenClaim.holds_of_cond 5 Tryz.f5 rfl rfl rfl rfl rfl rfl rfl ⟨rfl, rfl, rfl, rfl, rfl⟩ rfl rfl rfl rfl rfl (by kernel_rfl) Tryz.func5 (by kernel_rfl)
    (of_decide_eq_true (by kernel_rfl)) (by unfold Func.isWrapper; first | (rw [if_pos (by decide +kernel)]; kernel_rfl) | (rw [if_neg (by decide +kernel)]; exact ⟨rfl, rfl⟩))
    (fun os started H enc _ F => by rw [OpenClaim.pre_eq_preRow]; exact lifted os started H enc F)
theorem x_holds : Rows.KeyingNotationUptoCardSaid :=
  Claim7.holds_tied_plain_at .later [] [.data, .data, .data, .data, .pinned] true (true, "082a628b5d1433978cdf7694ffbaaa430d80fd55f018e46078969afddae3401f") false
    row_holds (fun _ h => by cases h) (by kernel_rfl) (fun _ h => by cases h) keyingNotationUpto_row_tie rfl ⟨rfl, rfl⟩ (by kernel_rfl) rfl
    (fun f fn hf hfn => by
      obtain rfl : f = 5 := Option.some.inj ((show Tryz.prog.funcNamed "examboard/examboardlaw40.KeyingNotation" = some 5 by kernel_rfl).symm.trans hf) |>.symm
      obtain rfl : fn = Tryz.f5 := (Option.some.inj (Tryz.func5.symm.trans hfn)).symm
      exact ⟨by kernel_rfl, fun j t ht => by
        rw [Tryz.params5] at ht
        have h3 : t = 9 ∨ t = 25 ∨ t = 27 := by
          rcases j with _ | _ | _ | j
          · have ht : 25 = t := (by simpa using ht)
            first | exact ht.symm | exact .inl ht.symm | exact .inr ht.symm | exact .inr (.inl ht.symm) | exact .inr (.inr ht.symm)
          · have ht : 27 = t := (by simpa using ht)
            first | exact ht.symm | exact .inl ht.symm | exact .inr ht.symm | exact .inr (.inl ht.symm) | exact .inr (.inr ht.symm)
          · have ht : 9 = t := (by simpa using ht)
            first | exact ht.symm | exact .inl ht.symm | exact .inr ht.symm | exact .inr (.inl ht.symm) | exact .inr (.inr ht.symm)
          · simp at ht
        rcases h3 with rfl | rfl | rfl
        · exact (show Tryz.prog.wantsStandIn 9 = false by kernel_rfl)
        · exact (show Tryz.prog.wantsStandIn 25 = false by kernel_rfl)
        · exact (show Tryz.prog.wantsStandIn 27 = false by kernel_rfl)⟩)
    (by kernel_rfl)
#print axioms x_holds
end Go.Proofs.YtlhjljplfmmoaaaGreatDoor
