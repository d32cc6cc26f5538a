/- What a datum's bulk says of the values it was read from. -/
import Derived.Test.YtlhjljplfmmoaaaGreatDoorRows
import Derived.Test.YtlhjljplfmmoaaaGreatDoorM3
import Derived.Test.YtlhjljplfmmoaaaGreatDoorF50
set_option linter.unusedSimpArgs false
set_option linter.unusedVariables false
namespace Go.Proofs.YtlhjljplfmmoaaaGreatDoor.Bulk
open Go Go.RowKit Go.ChangeShapes Go.WideShapes Go.ChangeAt Go.Proofs.YtlhjljplfmmoaaaGreatDoor.Ev
theorem one_le {H : Type} (d : DataW H) : 1 ≤ Rows.uptoBulk d := by
  cases d with
  | lit l => cases l <;> simp [Rows.uptoBulk]
  | nil => simp [Rows.uptoBulk]
  | ptr d => simp [Rows.uptoBulk]
  | slice elems spare => simp [Rows.uptoBulk]
  | agg parts => simp [Rows.uptoBulk]
  | iface t d => simp [Rows.uptoBulk]
  | map entries => simp [Rows.uptoBulk]
  | held h => simp [Rows.uptoBulk]
theorem part_le {H : Type} {d : DataW H} {l : List (DataW H)} (h : d ∈ l) : Rows.uptoBulk d ≤ Rows.uptoBulkAll l := by
  induction l with
  | nil => cases h
  | cons x r ih =>
    simp only [Rows.uptoBulkAll]
    cases List.mem_cons.1 h with
    | inl e => subst e; omega
    | inr e => have := ih e; omega
theorem length_le {H : Type} (l : List (DataW H)) : l.length ≤ Rows.uptoBulkAll l := by
  induction l with
  | nil => simp [Rows.uptoBulkAll]
  | cons x r ih => have := one_le x; simp only [Rows.uptoBulkAll, List.length_cons]; omega
theorem slice_le {H : Type} (elems spare : List (DataW H)) : elems.length + spare.length + 1 ≤ Rows.uptoBulk (.slice elems spare) := by
  have h1 := length_le elems
  have h2 := length_le spare
  simp only [Rows.uptoBulk]
  omega
section
variable {P : Program} {H : Type} {enc : TypeId × Value → H} {W : World} {base : Nat} {spare : Nat → Bool} {held : Bool} {fuel : Nat} {t : TypeId} {d : DataW H} {ps : List MemPlace}
theorem trod_str {s : ByteArray} (hu : P.underlying t = some .string) (h : DataW.trod enc P W base spare held fuel t [.string s] = some (d, ps)) : s.size ≤ Rows.uptoBulk d := by
  cases fuel with
  | zero => simp [DataW.trod] at h
  | succ fuel =>
    unfold DataW.trod at h
    rw [hu] at h
    simp only at h
    split at h
    · simp only [Option.some.injEq, Prod.mk.injEq] at h
      obtain ⟨rfl, _⟩ := h
      have e : s.data.toList.length = s.size := by rw [Array.length_toList]; rfl
      simp only [Rows.uptoBulk]
      omega
    · cases h
theorem trod_sl {e : TypeId} {a : Addr} {len cap : Nat} (hu : P.underlying t = some (.slice e)) (h : DataW.trod enc P W base spare held fuel t [.slice (some a) len cap] = some (d, ps)) : len ≤ Rows.uptoBulk d := by
  cases fuel with
  | zero => simp [DataW.trod] at h
  | succ fuel =>
    unfold DataW.trod at h
    rw [hu] at h
    simp only at h
    split at h
    · obtain ⟨elems, he, hrest⟩ := Option.bind_eq_some_iff.1 h
      have hlen := mapM_some_length he
      rw [List.length_range] at hlen
      obtain ⟨rest, _, hd⟩ := Option.map_eq_some_iff.1 hrest
      simp only [Prod.mk.injEq] at hd
      obtain ⟨rfl, _⟩ := hd
      have := slice_le (elems.map (·.1)) (rest.map (·.1))
      rw [List.length_map] at this
      omega
    · cases h
theorem trod_fs {fs : Array Field} {cs : List Value} (hu : P.underlying t = some (.struct fs)) (h : DataW.trod enc P W base spare held fuel t cs = some (d, ps)) :
    cs.length = P.cellsOf t ∧ ∃ fuel', ∀ (i : Nat) f, fs[i]? = some f → ∃ d' ps', DataW.trod enc P W base spare held fuel' f.type ((cs.drop f.offset).take (P.cellsOf f.type)) = some (d', ps') ∧ Rows.uptoBulk d' ≤ Rows.uptoBulk d := by
  cases fuel with
  | zero => simp [DataW.trod] at h
  | succ fuel =>
    unfold DataW.trod at h
    rw [hu] at h
    split at h <;> (try (rename_i he _; cases he; done)) <;> (try (rename_i he; cases he; done)) <;> (try (rename_i he _ _; cases he; done))
    · rename_i fs' he
      cases he
      split at h
      · rename_i hlen
        refine ⟨hlen, fuel, fun i f hf => ?_⟩
        obtain ⟨xs, hx, hd⟩ := Option.map_eq_some_iff.1 h
        simp only [Prod.mk.injEq] at hd
        obtain ⟨rfl, _⟩ := hd
        have h1 := mapM_some_get hx i f (by simpa using hf)
        have hl := mapM_some_length hx
        have hlt := (Array.getElem?_eq_some_iff.1 hf).1
        rw [List.getElem?_eq_getElem (by rw [hl]; simpa using hlt)] at h1
        refine ⟨_, _, h1, ?_⟩
        have hm := part_le (H := H) (d := (xs[i]'(by rw [hl]; simpa using hlt)).1) (l := xs.map (·.1)) (List.mem_map.2 ⟨_, List.getElem_mem _, rfl⟩)
        exact Nat.le_trans hm (by simp only [Rows.uptoBulk]; omega)
      · cases h
    · simp_all
end
section
variable {H : Type} {enc : TypeId × Value → H} {W : World} {base : Nat} {spare : Nat → Bool} {held : Bool} {d : DataW H} {ps : List MemPlace} {S : Nat → Prop} {v : Value}
theorem sl_bulk {fuel : Nat} {t e : TypeId} {xs : List PV} {u : Value} (hu : Tryz.prog.underlying t = some (.slice e)) (hr : Rep S W (.sl xs) u) (h : DataW.trod enc Tryz.prog W base spare held fuel t [u] = some (d, ps)) : xs.length ≤ Rows.uptoBulk d := by
  cases hr with
  | sl _ a c s f h1 h2 h3 =>
    cases a with
    | none =>
      cases xs with
      | nil => simp
      | cons x t => obtain ⟨ad, h⟩ := h3 (by simp); cases h
    | some a => exact trod_sl hu h
theorem ans_bulk {a : Ans} (hr : RepV S W a.pv v) (h : DataW.Trod enc Tryz.prog W base spare held 27 v d ps) : a.choices.length ≤ Rows.uptoBulk d ∧ a.text.size ≤ Rows.uptoBulk d := by
  obtain ⟨fuel, h⟩ := h
  obtain ⟨hsz, hc⟩ := pv_cells hr
  obtain ⟨hlen, fuel', hf⟩ := trod_fs Tryz.underlying27 h
  constructor
  · obtain ⟨d', ps', h1, h2⟩ := hf 1 _ rfl
    obtain ⟨z, hz, hzr⟩ := hc 1 _ rfl
    have e : (v.cells.toList.drop 1).take 1 = [z] := by
      rw [List.drop_eq_getElem_cons (by rw [Array.length_toList, hsz]; simp [Ans.pv, PV.cells])]
      have : v.cells.toList[1]? = some z := by simpa using hz
      obtain ⟨_, hg⟩ := List.getElem?_eq_some_iff.1 this
      simp [hg]
    have h1' : DataW.trod enc Tryz.prog W base spare held fuel' 23 ((v.cells.toList.drop 1).take (Tryz.prog.cellsOf 23)) = some (d', ps') := h1
    rw [show Tryz.prog.cellsOf 23 = 1 by kernel_rfl, e] at h1'
    have := sl_bulk Tryz.underlying23 hzr h1'
    rw [List.length_map] at this
    omega
  · obtain ⟨d', ps', h1, h2⟩ := hf 3 _ rfl
    obtain ⟨z, hz, hzr⟩ := hc 3 _ rfl
    have e : (v.cells.toList.drop 3).take 1 = [z] := by
      rw [List.drop_eq_getElem_cons (by rw [Array.length_toList, hsz]; simp [Ans.pv, PV.cells])]
      have : v.cells.toList[3]? = some z := by simpa using hz
      obtain ⟨_, hg⟩ := List.getElem?_eq_some_iff.1 this
      simp [hg]
    have h1' : DataW.trod enc Tryz.prog W base spare held fuel' 9 ((v.cells.toList.drop 3).take (Tryz.prog.cellsOf 9)) = some (d', ps') := h1
    rw [show Tryz.prog.cellsOf 9 = 1 by kernel_rfl, e] at h1'
    obtain ⟨⟩ := hzr
    have := trod_str Tryz.underlying9 h1'
    omega
theorem str_bulk {s : ByteArray} (hr : RepV S W (strP s) v) (h : DataW.Trod enc Tryz.prog W base spare held 9 v d ps) : s.size ≤ Rows.uptoBulk d := by
  obtain ⟨fuel, h⟩ := h
  obtain ⟨hsz, hc⟩ := pv_cells hr
  obtain ⟨z, hz, hzr⟩ := hc 0 _ rfl
  have e : v.cells.toList = [z] := by
    have hl : v.cells.toList.length = 1 := by rw [Array.length_toList, hsz]; rfl
    have : v.cells.toList[0]? = some z := by simpa using hz
    match hv : v.cells.toList, hl with
    | [y], _ => rw [hv] at this; simpa using this
  rw [e] at h
  obtain ⟨⟩ := hzr
  exact trod_str Tryz.underlying9 h
theorem bulk3 {x : PV} {a : Ans} {s : ByteArray} {vs : List Value} {ds : List (DataW H)} (h1 : RepVL S W [x, a.pv, strP s] vs) (hA : DataW.TrodAll enc Tryz.prog W base spare held [25, 27, 9] vs ds ps) :
    a.choices.length ≤ Rows.uptoBulkAll ds ∧ a.text.size ≤ Rows.uptoBulkAll ds ∧ s.size ≤ Rows.uptoBulkAll ds := by
  obtain ⟨v0, vs0, d0, ds0, p0, q0, rfl, rfl, _, t0, r0⟩ := trodAll_cons hA
  obtain ⟨v1, vs1, d1, ds1, p1, q1, rfl, rfl, _, t1, r1⟩ := trodAll_cons r0
  obtain ⟨v2, vs2, d2, ds2, p2, q2, rfl, rfl, _, t2, r2⟩ := trodAll_cons r1
  obtain ⟨_, k1, k2, _⟩ := h1
  obtain ⟨b1, b2⟩ := ans_bulk k1 t1
  have b3 := str_bulk k2 t2
  simp only [Rows.uptoBulkAll]
  omega
end
end Go.Proofs.YtlhjljplfmmoaaaGreatDoor.Bulk
