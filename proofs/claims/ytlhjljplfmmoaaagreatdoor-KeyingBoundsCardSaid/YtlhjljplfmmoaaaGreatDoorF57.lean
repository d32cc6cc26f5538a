/- The law KeyingBounds, called. -/
import Derived.Test.YtlhjljplfmmoaaaGreatDoorF55
import Derived.Test.YtlhjljplfmmoaaaGreatDoorF56
import Derived.Test.YtlhjljplfmmoaaaGreatDoorRow
import Derived.Test.YtlhjljplfmmoaaaGreatDoorAw
namespace Go.Proofs.YtlhjljplfmmoaaaGreatDoor.Ev
open Go
set_option linter.unusedSimpArgs false
set_option linter.unusedVariables false
set_option maxRecDepth 10000
set_option maxHeartbeats 4000000
theorem ansK_choices (it : It) : (ansK it).choices.length ≤ it.choices.length := by unfold ansK; split <;> (try split) <;> simp
theorem ansK_text {it : It} {n : Nat} (h : ∀ s, s ∈ it.texts → s.size ≤ n) : (ansK it).text.size ≤ n := by
  unfold ansK
  split
  · exact Nat.zero_le _
  · split
    · cases hx : it.texts with
      | nil => exact Nat.zero_le _
      | cons x t => exact h x (by rw [hx]; exact List.mem_cons_self)
    · exact Nat.zero_le _
theorem fit_up {it : It} {n m : Nat} (h : it.Fit n) (hle : n ≤ m) : it.Fit m := ⟨Nat.le_trans h.stem hle, Nat.le_trans h.cont hle, Nat.le_trans h.opts hle, fun s hs => Nat.le_trans (h.optsS s hs) hle, Nat.le_trans h.choices hle, Nat.le_trans h.texts hle, fun s hs => Nat.le_trans (h.textsS s hs) hle, Nat.le_trans h.assets hle⟩
theorem bounds_ev (m : Nat) (it : It) (a : Ans) (haw : (ev Tryz.prog tab (m + 40)).callA 15 [] = some [.val (.bool true)]) (hn : it.Fit m) (hm : it.Fit 140737488351232) (hz : it.choices.length * 8 ≤ 140737488351232) (ha : a.choices.length ≤ 140737488351232) (han : a.choices.length ≤ m) (hat : a.text.size ≤ 140737488351232) (hatn : a.text.size ≤ m) :
    (ev Tryz.prog tab (m + 41)).callA 4 [it.pv, a.pv] = some [.val (.bool true)] := by
  have hM : it.Fit 9223372036854775807 := fit_up hm (by decide)
  have R : Room (m + 18) it a := ⟨fit_up hn (by omega), hM, hz, by omega, by omega, by omega, by omega, by omega⟩
  have hkc := ansK_choices it
  have hkt := ansK_text hm.textsS
  have hkt2 := ansK_text hn.textsS
  have hch := hm.choices
  have hch2 := hn.choices
  have RK : Room (m + 18) it (ansK it) := ⟨fit_up hn (by omega), hM, hz, by omega, by omega, by omega, by omega, by omega⟩
  have w8 := score_ev (m + 18) it a R
  have w12 := kvalid_ev (m + 19) it a (fit_up hn (by omega)) hM hz (by omega) (by omega) (by omega)
  have w10 := right_ev (m + 19) it (fit_up hn (by omega)) hM hz
  have w16 := valid_ev (m + 20) it (fit_up hn (by omega)) hM hz
  have k8 := score_ev (m + 18) it (ansK it) RK
  have k12 := kvalid_ev (m + 19) it (ansK it) (fit_up hn (by omega)) hM hz (by omega) (by omega) (by omega)
  have hF := score_facts it a
  have hs : ¬ rightE it = 0 → (ev Tryz.prog tab (m + 40)).callA 14 [(rightA it).pv, ansZ.pv] = some [.val (.bool true)] := by
    intro h
    have : rightA it = ansZ := by
      unfold rightE at h
      unfold rightA
      split
      · rename_i hv
        rw [if_pos hv] at h
        split
        · rfl
        · rename_i h6; rw [if_neg h6] at h; exact absurd rfl h
      · rfl
    rw [this]
    exact same_zero (m + 38)
  have hg : rightE it = 0 → (ev Tryz.prog tab (m + 40)).callA 8 [it.pv, (rightA it).pv] = some [intP it.pts, intP 0] ∧ (ev Tryz.prog tab (m + 40)).callA 12 [it.pv, (rightA it).pv] = some [intP 0] := by
    intro h
    unfold rightE at h
    split at h
    · rename_i hv
      split at h
      · simp at h
      · rename_i h6
        have : rightA it = ansK it := by unfold rightA; rw [if_pos hv, if_neg h6]
        obtain ⟨f1, f2, f3⟩ := key_facts hv h6
        rw [f2, f3] at k8
        rw [f1] at k12
        rw [this]
        exact ⟨k8, k12⟩
    · rename_i hv; exact absurd h hv
  have hGV : ¬ rightE it = 0 → ¬ validI it = 0 ∨ it.kind = 6 := by
    intro h
    unfold rightE at h
    split at h
    · split at h
      · rename_i h6; exact .inr h6
      · exact absurd rfl h
    · rename_i hv; exact .inl hv
  exact bounds_core (m + 40) it.id it.ver it.kind it.val it.tol it.pts it.fam it.set it.words it.secs it.rub it.stem it.cont it.opts it.texts it.choices it.assets a.item a.value a.choices a.text a.om (rightA it).item (rightA it).value (rightA it).choices (rightA it).text (rightA it).om _ _ _ _ _ it.pv a.pv (rightA it).pv rfl rfl rfl w8 w12 w10 w16 haw hs hg hGV hF
theorem fitsV_ans {n : Nat} {x : PV} (h : FitsV Tryz.prog (n + 3) 27 x) : ∃ a : Ans, x = a.pv ∧ a.choices.length * 8 ≤ 140737488351232 ∧ a.text.size ≤ 140737488351232 := by
  obtain ⟨h1, h2⟩ := h
  unfold Fits at h1
  rw [Tryz.underlying27] at h1
  simp only [FitsFs] at h1
  obtain ⟨p1, q1, hx, _, f1, p2, q2, rfl, _, f2, p3, q3, rfl, _, f3, p4, q4, rfl, _, f4, p5, q5, rfl, _, f5, rfl⟩ := h1
  obtain ⟨item, rfl⟩ := fits_i64 f1 Tryz.underlying3
  obtain ⟨choices, rfl, zchoices⟩ := fits_ints f2 Tryz.underlying23 Tryz.underlying3 (by kernel_rfl)
  obtain ⟨value, rfl⟩ := fits_i64 f3 Tryz.underlying3
  obtain ⟨text, rfl, ztext⟩ := fits_str f4 Tryz.underlying9
  obtain ⟨om, rfl⟩ := fits_bool f5 Tryz.underlying4
  refine ⟨⟨item, choices, value, text, om⟩, ?_, zchoices, ztext⟩
  rcases h2 with ⟨_, c, rfl⟩ | ⟨h2, _⟩
  · exact congrArg PV.agg hx
  · unfold isAggT at h2; rw [Tryz.underlying27] at h2; cases h2
set_option maxRecDepth 100000 in
theorem bounds_law (W : World) (args : Array Value) (xs : List PV) (h1 : RepVL (inW W) W xs args.toList) (h2 : FitsAll Tryz.prog 6 [25, 27] xs) : Calls Tryz.prog 4 args W fun e W' => e = .returned (.bool true) ∧ RowKit.Below W.heap.size W W' := by
    obtain ⟨x, y, rfl, hx, hy⟩ := fitsAll2 h2
    obtain ⟨it, rfl, hit, hz, m, hm⟩ := fitsV_item (n := 3) hx
    obtain ⟨a, rfl, ha, hat⟩ := fitsV_ans (n := 3) hy
    have he := bounds_ev (m + a.choices.length + a.text.size) it a (awake_ev _) (fit_up hm (by omega)) hit hz (by omega) (by omega) hat (by omega)
    exact calls_of_ev Tryz.func4 (by kernel_rfl) rfl he h1
end Go.Proofs.YtlhjljplfmmoaaaGreatDoor.Ev
