/- How the evaluator stands to the model: operations. -/
import Derived.Test.YtlhjljplfmmoaaaGreatDoorM1
import Derived.Laws.CopyRow
set_option linter.unusedSimpArgs false
set_option linter.unusedVariables false
/- Soundness of the evaluator, part 10: rows that are made; the operations that write nothing. -/
namespace Go.Proofs.YtlhjljplfmmoaaaGreatDoor.Ev
open Go Go.RowKit
/-- Nothing is held back. -/
def noH : Nat → Prop := fun _ => False
section
variable {P : Program} {S0 H : Nat → Prop} {n0 : Nat} {w0 : World} {st : St} {a : Act} {W W' : World} {A : List (Array Value)} {μ : Mu} {S : Nat → Prop} {so so' : Store}
theorem free_sub {H' : Nat → Prop} (hso : ∀ k, (so'.get k).isSome = true → (so.get k).isSome = true) (hsz : W.heap.size ≤ W'.heap.size) (hH : ∀ b, H' b → H b ∨ W.heap.size ≤ b) {b : Nat} (h : free S0 n0 H μ so W b) : free S0 n0 H' μ so' W' b := by
  obtain ⟨h1, h2, h3, h4⟩ := h
  exact ⟨h1, fun hb => (hH b hb).elim h2 (by omega), by omega, fun k c hk hc => h4 k c (hso k hk) hc⟩
theorem kill_sub (st : St) (k j : Nat) (h : ((st.kill k).so.get j).isSome = true) : (st.so.get j).isSome = true := by
  rw [kill_get] at h
  split at h
  · simp at h
  · exact h
theorem seal_get (st : St) (k j : Nat) : ((st.close k).so.get j) = match st.so.get k with
    | some (.row _ xs) => if j = k then none else (st.so.get j).map (SO.map (seal1 k xs))
    | _ => st.so.get j := by
  unfold St.close
  split
  · rename_i e xs hk
    simp only [St.turn, get_mapSo, get_del, hk]
    split <;> rfl
  · rename_i hk
    split
    · rename_i e xs hx; exact absurd hx (hk e xs)
    · rfl
theorem seal_sub (st : St) (k j : Nat) (h : ((st.close k).so.get j).isSome = true) : (st.so.get j).isSome = true := by
  rw [seal_get] at h
  split at h
  · split at h
    · simp at h
    · simpa using h
  · exact h
theorem sealAll_sub (ks : List Nat) : ∀ (st : St) (j : Nat), ((sealAll ks st).so.get j).isSome = true → (st.so.get j).isSome = true := by
  induction ks with
  | nil => intro st j h; exact h
  | cons k ks ih => intro st j h; exact seal_sub st k j (ih _ j h)
theorem sealAll_free (ks : List Nat) : ∀ {st : St}, Rel P S0 n0 w0 H st a W A μ → ∀ k, k ∈ ks → ∀ e xs, st.so.get k = some (.row e xs) → ∀ c, μ k = some c → free S0 n0 H μ (sealAll ks st).so W c.1 := by
  induction ks with
  | nil => intro st h k hk; simp at hk
  | cons k0 ks ih =>
    intro st h k hk e xs hx c hc
    by_cases hkk : k = k0
    · subst hkk
      have h1 : free S0 n0 H μ (st.close k).so W c.1 := by
        obtain ⟨g1, g2, _⟩ := h.obj k _ hx c hc
        refine ⟨.inr g1, fun hb => (h.held _ hb).2 k c (by rw [hx]; rfl) hc rfl, g2, fun j c' hj hc' he => ?_⟩
        have hjs := seal_sub st k j hj
        have : j = k := h.inj j k c' c hjs (by rw [hx]; rfl) hc' hc he
        subst this
        rw [seal_get, hx] at hj
        simp at hj
      exact free_sub (fun j hj => sealAll_sub ks _ j hj) (Nat.le_refl _) (fun b hb => .inl hb) h1
    · have hk' : k ∈ ks := by
        rcases List.mem_cons.1 hk with h1 | h1
        · exact absurd h1 hkk
        · exact h1
      have : ∃ e' xs', (st.close k0).so.get k = some (.row e' xs') := by
        rw [seal_get]
        split
        · rw [if_neg hkk, hx]; exact ⟨_, _, rfl⟩
        · exact ⟨_, _, hx⟩
      obtain ⟨e', xs', hx'⟩ := this
      exact ih (h.close k0) k hk' e' xs' hx' c hc
theorem pv_cells {x : PV} {u : Value} (h : RepV S W x u) : u.cells.size = x.cells.length ∧ ∀ (q : Nat) (y : PV), x.cells[q]? = some y → ∃ z, u.cells[q]? = some z ∧ Rep S W y z := by
  have single : ∀ {x : PV}, Rep S W x u → u.cells = #[u] → x.cells = [x] → u.cells.size = x.cells.length ∧ ∀ (q : Nat) (y : PV), x.cells[q]? = some y → ∃ z, u.cells[q]? = some z ∧ Rep S W y z := by
    intro x h hu hx
    rw [hu, hx]
    refine ⟨rfl, fun q y hq => ?_⟩
    cases q with
    | zero => obtain rfl : x = y := by simpa using hq
              exact ⟨u, rfl, h⟩
    | succ q => simp at hq
  cases x with
  | agg cs =>
    obtain ⟨arr, rfl, hl, hc⟩ := h
    exact ⟨hl, hc⟩
  | val w =>
    refine single (x := .val w) h ?_ rfl
    cases h with | val _ hs => cases u <;> first | rfl | (simp [scalarV] at hs)
  | sl xs =>
    refine single (x := .sl xs) h ?_ rfl
    cases h; rfl
  | fn f xs =>
    refine single (x := .fn f xs) h ?_ rfl
    cases h; rfl
theorem rowSize_some {e : TypeId} {n : Nat} (h : rowSize P e = some n) : sizeT P e = some n ∧ 0 < n := by
  unfold rowSize at h
  split at h
  · split at h
    · simp at h
    · obtain rfl := Option.some.inj h
      exact ⟨by assumption, by omega⟩
  · simp at h
theorem lit_fill (h : Rel P S0 n0 w0 H st a W A μ) {S' : Nat → Prop} (hS : ∀ b, free S0 n0 H μ st.so W b → S' b) (n : Nat) :
    ∀ (parts : List (Nat × Option TV)) (us : List (Nat × Value)) (j : Nat) (xs : List PV) (arr : Array Value), RepP P (free S0 n0 H μ st.so W) μ st.so W parts us → litXs n st.so j parts = some xs → (j + parts.length) * n ≤ arr.size →
      (∀ k, k ∈ partRows parts → ∀ e xs, st.so.get k = some (.row e xs) → ∀ c, μ k = some c → S' c.1) →
      ∃ arr', Instr.fill (fun i => some (i * n, n)) arr us = some arr' ∧ arr'.size = arr.size ∧ (∀ i, i < j * n → arr'[i]? = arr[i]?) ∧ xs.length = parts.length ∧ (∀ x, x ∈ xs → x.cells.length = n) ∧
        ∀ (i : Nat) (x : PV) (q : Nat) (y : PV), xs[i]? = some x → x.cells[q]? = some y → ∃ u, arr'[(j + i) * n + q]? = some u ∧ Rep S' W y u := by
  intro parts
  induction parts with
  | nil =>
    intro us j xs arr hps hl hle hb
    cases us with
    | nil =>
      simp [litXs] at hl
      subst hl
      exact ⟨arr, rfl, rfl, fun _ _ => rfl, rfl, fun x hx => by simp at hx, fun i x q y hx => by simp at hx⟩
    | cons _ _ => exact hps.elim
  | cons p parts ih =>
    intro us j xs arr hps hl hle hb
    obtain ⟨i, v⟩ := p
    cases v with
    | none => simp [litXs] at hl
    | some v =>
      cases us with
      | nil => exact hps.elim
      | cons u us =>
        obtain ⟨i', u⟩ := u
        obtain ⟨rfl, hv, hps⟩ := hps
        simp only [litXs] at hl
        split at hl
        · rename_i hij
          subst hij
          split at hl
          · rename_i x hx
            split at hl
            · rename_i hxn
              unfold consO at hl
              split at hl
              · rename_i xs' hxs'
                obtain rfl := Option.some.inj hl
                have hrv := h.pv hS hx hv (fun k hk => hb k (by simp [partRows, hk]))
                obtain ⟨c1, c2⟩ := pv_cells hrv
                simp only [List.length_cons] at hle
                have hle1 : i * n + n ≤ arr.size := by
                  have : (i + 1) * n ≤ (i + (parts.length + 1)) * n := Nat.mul_le_mul_right _ (by omega)
                  rw [Nat.add_mul, Nat.one_mul] at this
                  omega
                rw [fill_cons _ arr i u us (i * n) n rfl (by rw [c1, hxn]) hle1]
                obtain ⟨arr', g1, g2, g3, g4, g5, g6⟩ := ih us (i + 1) xs' (puts arr (i * n) u.cells.toList) hps hxs' (by rw [size_puts, show i + 1 + parts.length = i + (parts.length + 1) by omega]; exact hle) (fun k hk => hb k (by simp [partRows, hk]))
                refine ⟨arr', g1, by rw [g2, size_puts], fun q hq => ?_, by simp [g4], fun x' hx' => ?_, fun i' x' q y hx' hq => ?_⟩
                · have : q < (i + 1) * n := by rw [Nat.add_mul]; omega
                  rw [g3 q this, getElem?_puts, if_neg (by omega)]
                · rcases List.mem_cons.1 hx' with rfl | hx'
                  · exact hxn
                  · exact g5 x' hx'
                · cases i' with
                  | zero =>
                    obtain rfl : x = x' := by simpa using hx'
                    have hqn : q < n := by
                      have := (List.getElem?_eq_some_iff.1 hq).1
                      omega
                    obtain ⟨z, hz, hr⟩ := c2 q y hq
                    refine ⟨z, ?_, hr⟩
                    rw [Nat.add_zero, g3 (i * n + q) (by rw [Nat.add_mul]; omega), getElem?_puts, if_pos (by rw [Array.length_toList, c1, hxn]; omega), show i * n + q - i * n = q by omega]
                    simpa using hz
                  | succ i' =>
                    have := g6 i' x' q y (by simpa using hx') hq
                    rwa [show i + 1 + i' = i + (i' + 1) by omega] at this
              · simp at hl
            · simp at hl
          · simp at hl
        · simp at hl
theorem lit_run (h : Rel P S0 n0 w0 H st a W A μ) {S' : Nat → Prop} (hS : ∀ b, free S0 n0 H μ st.so W b → S' b) {t : TypeId} {len : Nat} {parts : List (Nat × Option TV)} {us : Array (Nat × Value)} {xs : List PV} (hps : RepP P (free S0 n0 H μ st.so W) μ st.so W parts us.toList)
    (hl : litTV P st.so t len parts = some xs) (hb : ∀ k, k ∈ partRows parts → ∀ e xs, st.so.get k = some (.row e xs) → ∀ c, μ k = some c → S' c.1) :
    ∃ e s arr, elemT P t = some e ∧ sizeT P e = some s ∧ 0 < s ∧ arr.size = len * s ∧ xs.length = len ∧ len ≤ maxLen ∧ (∀ x, x ∈ xs → x.cells.length = s) ∧
      (∀ (i : Nat) (x : PV) (q : Nat) (y : PV), xs[i]? = some x → x.cells[q]? = some y → ∃ u, arr[i * s + q]? = some u ∧ Rep S' W y u) ∧
      (Instr.buildSlice t len us).run P W = .ok (.slice (some ⟨W.heap.size, 0, none⟩) len len) (W.alloc (.cells arr e)) := by
  unfold litTV at hl
  split at hl
  · simp at hl
  · rename_i e he
    split at hl
    · rename_i n z hn hz
      obtain ⟨hn1, hn2⟩ := rowSize_some hn
      split at hl
      · rename_i hc
        obtain ⟨hc1, hc2⟩ := hc
        obtain ⟨uz, hzr, _, it, hit, hitz⟩ := run_zeroValue (P := P) (W := W) hz
        have hsz := run_sizeOf (P := P) (W := W) hn1
        have harr : ∀ zero : Array Value, ((Array.range (len * n)).map (fun x => zero[x % zero.size]!)).size = len * n := fun zero => by simp
        have key : ∀ zero : Array Value, ∃ arr', Instr.fill (fun i => some (i * n, n)) ((Array.range (len * n)).map (fun x => zero[x % zero.size]!)) us.toList = some arr' ∧ arr'.size = len * n ∧ xs.length = len ∧ (∀ x, x ∈ xs → x.cells.length = n) ∧
            ∀ (i : Nat) (x : PV) (q : Nat) (y : PV), xs[i]? = some x → x.cells[q]? = some y → ∃ u, arr'[i * n + q]? = some u ∧ Rep S' W y u := fun zero => by
          obtain ⟨arr', g1, g2, _, g4, g5, g6⟩ := lit_fill h hS n parts us.toList 0 xs ((Array.range (len * n)).map (fun x => zero[x % zero.size]!)) hps hl (by rw [harr, hc1, Nat.zero_add]; exact Nat.le_refl _) hb
          exact ⟨arr', g1, by rw [g2, harr], by rw [g4, hc1], g5, fun i x q y hx hy => by simpa using g6 i x q y hx hy⟩
        have hlm : len ≤ maxLen := by
          have : len * 1 ≤ len * n := Nat.mul_le_mul_left _ hn2
          simp only [maxLen]
          omega
        by_cases h0 : len * n = 0
        · obtain ⟨arr', g1, g2, g3, g4, g5⟩ := key #[]
          refine ⟨e, n, arr', he, hn1, hn2, g2, g3, hlm, g4, g5, ?_⟩
          simp only [h0] at g1
          simp [Instr.buildSlice, run_underlying (elemT_eq he), hsz, h0] 
          simp at g1
          simp [g1, newRow]
        · obtain ⟨arr', g1, g2, g3, g4, g5⟩ := key uz.cells
          refine ⟨e, n, arr', he, hn1, hn2, g2, g3, hlm, g4, g5, ?_⟩
          exact run_buildSlice W t e len us arr' it uz (elemT_eq he) hit hitz (by unfold sizeT at hn1; simp [hit] at hn1; rw [hn1]; omega) (by unfold sizeT at hn1; simp [hit] at hn1; rw [hn1]; exact h0) (by unfold sizeT at hn1; simp [hit] at hn1; rw [hn1]; exact g1)
      · simp at hl
    · simp at hl
end
end Go.Proofs.YtlhjljplfmmoaaaGreatDoor.Ev
/- Soundness of the evaluator, part 11: the operations that write nothing, as one. -/
namespace Go.Proofs.YtlhjljplfmmoaaaGreatDoor.Ev
open Go Go.RowKit
section
variable {P : Program} {S0 H : Nat → Prop} {n0 : Nat} {w0 : World} {st : St} {a : Act} {W W' : World} {A : List (Array Value)} {μ : Mu} {S : Nat → Prop} {so so' : Store}
theorem pick_run {c a b : Option TV} {u x y : Value} {r : TV} (hc : ∀ v, c = some v → Rep3 P S μ so W v u) (ha : ∀ v, a = some v → Rep3 P S μ so W v x) (hb : ∀ v, b = some v → Rep3 P S μ so W v y) (h : pick? c a b = some r) :
    ∃ t : Bool, u = .bool t ∧ Rep3 P S μ so W r (if t then x else y) := by
  unfold pick? at h
  split at h
  · rename_i t p q
    obtain rfl := Option.some.inj h
    obtain ⟨rfl, _⟩ := hc _ rfl
    obtain ⟨rfl, _⟩ := ha _ rfl
    obtain ⟨rfl, _⟩ := hb _ rfl
    refine ⟨t, rfl, ?_⟩
    cases t <;> exact ⟨rfl, rfl⟩
  · rename_i t _
    obtain ⟨rfl, _⟩ := hc _ rfl
    refine ⟨t, rfl, ?_⟩
    cases t
    · exact hb _ (by simpa using h)
    · exact ha _ (by simpa using h)
  · simp at h
theorem opNil_run {v : Option TV} {u : Value} {r : TV} (hv : ∀ w, v = some w → Rep3 P S μ so W w u) (h : opNil v = some r) : Rep3 P S μ so W r u ∧ ∃ ad, u = .pointer (some ad) := by
  unfold opNil at h
  split at h
  · obtain rfl := Option.some.inj h
    have := hv _ rfl
    refine ⟨this, ?_⟩
    obtain ⟨b, cap, h1, ⟨cs, h2, h3, rfl⟩ | ⟨e, xs, s, h2, h3, rfl⟩⟩ := this <;> exact ⟨_, rfl⟩
  · obtain rfl := Option.some.inj h
    have := hv _ rfl
    refine ⟨this, ?_⟩
    obtain ⟨ad, rfl, _⟩ := this
    exact ⟨_, rfl⟩
  · simp at h
theorem Rel.opt (h : Rel P S0 n0 w0 H st a W A μ) (x : Option Operand) : RepOpt P (free S0 n0 H μ st.so W) μ st.so W (rdOpt (rdv st.tm) x) (x.map a.eval) := by
  cases x with
  | none => trivial
  | some x =>
    simp only [rdOpt, Option.map_some]
    cases hx : rdv st.tm x with
    | none => trivial
    | some v => exact h.eval hx
/-- A list of values, in a block that was just made. -/
theorem row_rep {S' : Nat → Prop} {xs : List PV} {arr : Array Value} {e : TypeId} {len s : Nat} (hl : xs.length = len) (hm : len ≤ maxLen) (hc : ∀ x, x ∈ xs → x.cells.length = s)
    (hx : ∀ (i : Nat) (x : PV) (q : Nat) (y : PV), xs[i]? = some x → x.cells[q]? = some y → ∃ u, arr[i * s + q]? = some u ∧ Rep S' W y u) (hS : ∀ b, S' b → S b) (hb : S W.heap.size) :
    Rep S (W.alloc (.cells arr e)) (.sl xs) (.slice (some ⟨W.heap.size, 0, none⟩) len len) := by
  have := Rep.sl (S := S) (W := W.alloc (.cells arr e)) xs (some ⟨W.heap.size, 0, none⟩) len s (fun i q => (arr[i * s + q]?).getD default) (by omega) hm (fun _ => ⟨_, rfl⟩) hc ?_ ?_
  · rw [hl] at this; exact this
  · intro ad ha i x hi
    obtain rfl : (⟨W.heap.size, 0, none⟩ : Addr) = ad := by simpa using ha
    refine ⟨hb, fun q y hq => ?_⟩
    obtain ⟨u, hu, _⟩ := hx i x q y hi hq
    rw [add_plain, World.cell?_alloc_new, hu]
    rfl
  · intro i x q y hi hq
    obtain ⟨u, hu, hr⟩ := hx i x q y hi hq
    rw [hu]
    exact hr.step fun k hk => ⟨hS k hk, fun hlt => heap_alloc_old W _ k hlt⟩
theorem alloc_below (W : World) (o : Obj) : Below W.heap.size W (W.alloc o) := (Below.refl _ W).alloc (Nat.le_refl _) o
theorem alloc_size (W : World) (o : Obj) : (W.alloc o).heap.size = W.heap.size + 1 := by simp [World.alloc, -World.alloc_eq]
theorem litS_run (h : Rel P S0 n0 w0 H st a W A μ) (hH : ¬ H W.heap.size) {t : TypeId} {len : Nat} {parts : List (Nat × Option TV)} {us : Array (Nat × Value)} {r : TV} (hps : RepP P (free S0 n0 H μ st.so W) μ st.so W parts us.toList)
    (hl : litS P st.so t len parts = some r) : ∃ z W', (Instr.buildSlice t len us).run P W = .ok z W' ∧ Rel P S0 n0 w0 H st a W' A μ ∧ Rep3 P (free S0 n0 H μ st.so W') μ st.so W' r z := by
  unfold litS at hl
  split at hl
  · rename_i hpr
    unfold slO at hl
    split at hl
    · rename_i xs hxs
      obtain rfl := Option.some.inj hl
      obtain ⟨e, s, arr, h1, h2, h3, h4, h5, h6, h7, h8, h9⟩ := lit_run h (fun b hb => hb) hps hxs (by rw [hpr]; intro k hk; simp at hk)
      obtain ⟨g1, g2⟩ := h.fresh hH (alloc_size W (.cells arr e)) (alloc_below W _)
      exact ⟨_, _, h9, g1, row_rep h5 h6 h7 h8 (fun b hb => free_sub (fun k hk => hk) (by rw [alloc_size]; omega) (fun b hb => .inl hb) hb) g2⟩
    · simp at hl
  · simp at hl
theorem val_run (h : Rel P S0 n0 w0 H st a W A μ) (hH : ¬ H W.heap.size) {o : Oper} {callA : FuncId → List PV → Option (List PV)} {r : TV} (hcall : ∀ c, o.op ≠ .call c) (hv : evVal P callA (rdv st.tm) st.so o.op = some r) :
    ∃ z W', (execOp a.eval o).run P W = .ok (.value z) W' ∧ Rel P S0 n0 w0 H st a W' A μ ∧ Rep3 P (free S0 n0 H μ st.so W') μ st.so W' r z := by
  obtain ⟨dst, op, ty, pos, after, guard⟩ := o
  simp only at hv hcall
  unfold evVal at hv
  split at hv
  · exact ⟨_, W, by simp [execOp], h, h.eval hv⟩
  · exact ⟨_, W, by simp [execOp], h, h.eval hv⟩
  · rename_i c x y
    obtain ⟨t, ht, hr⟩ := pick_run (fun v hv => h.eval hv) (fun v hv => h.eval hv) (fun v hv => h.eval hv) hv
    exact ⟨_, W, by simp [execOp, ht, asBool], h, hr⟩
  · rename_i op t x y q
    unfold opBin at hv
    split at hv
    · rename_i v w hx hy
      obtain ⟨z, hz, rfl⟩ := valO_some hv
      obtain ⟨h1, h2⟩ := bin_run op t x y (h.eval hx) (h.eval hy) hz
      refine ⟨z, W, ?_, h, rfl, h2⟩
      simp only [execOp]
      rw [Sem.run_bind, h1]
      simp
    · simp at hv
  · rename_i op t x
    unfold opUn at hv
    split at hv
    · rename_i v hx
      obtain ⟨z, hz, rfl⟩ := valO_some hv
      obtain ⟨h1, h2⟩ := un_run (P := P) op (h.eval hx) hz
      exact ⟨z, W, by simp [execOp, h1], h, rfl, h2⟩
    · simp at hv
  · rename_i src ds x
    unfold opConv at hv
    split at hv
    · rename_i v hx
      obtain ⟨z, W', h1, h2, h3⟩ := conv_run h hH (h.eval hx) hv
      exact ⟨z, W', by simp [execOp, h1], h2, h3⟩
    · simp at hv
  · rename_i x i
    unfold opExtract at hv
    split at hv
    · rename_i ts hx
      obtain ⟨z, h1, h2⟩ := extract_run (P := P) (h.eval hx) hv
      exact ⟨z, W, by simp [execOp, h1], h, h2⟩
    · simp at hv
  · rename_i x
    obtain ⟨h1, ad, h2⟩ := opNil_run (fun v hv => h.eval hv) hv
    exact ⟨_, W, by simp only [execOp, h2]; simp, h, h1⟩
  · rename_i s x f
    unfold opFieldAddr at hv
    split at hv
    · rename_i v hx
      obtain ⟨z, h1, h2⟩ := fieldAddr_run (h.eval hx) hv
      exact ⟨z, W, by simp [execOp, h1], h, h2⟩
    · simp at hv
  · rename_i s x f
    unfold opField at hv
    split at hv
    · rename_i v hx
      obtain ⟨z, h1, h2⟩ := field_run (h.eval hx) hv
      exact ⟨z, W, by simp [execOp, h1], h, h2⟩
    · simp at hv
  · rename_i t x
    unfold opLoad at hv
    split at hv
    · rename_i v hx
      obtain ⟨z, h1, h2⟩ := h.load (h.eval hx) hv
      exact ⟨z, W, by simp [execOp, h1], h, h2⟩
    · simp at hv
  · rename_i t x i
    cases hx : rdv st.tm x with
    | none => simp [hx, opIndexAddr] at hv
    | some v =>
      cases hi : rdv st.tm i with
      | none => simp [hx, hi, opIndexAddr, indexAddrTV] at hv
      | some w =>
        rw [hx, hi] at hv
        obtain ⟨z, h1, h2⟩ := indexAddr_run (h.eval hx) (h.eval hi) hv
        exact ⟨z, W, by simp [execOp, h1], h, h2⟩
  · rename_i t x i
    cases hx : rdv st.tm x with
    | none => simp [hx, opIndex] at hv
    | some v =>
      cases hi : rdv st.tm i with
      | none => simp [hx, hi, opIndex, indexTV] at hv
      | some w =>
        rw [hx, hi] at hv
        obtain ⟨z, h1, h2⟩ := index_run (h.eval hx) (h.eval hi) hv
        exact ⟨z, W, by simp [execOp, h1], h, h2⟩
  · rename_i t x lo hi mx
    unfold opSlice at hv
    split at hv
    · rename_i v hx
      obtain ⟨z, h1, h2⟩ := slice_run (h.opt lo) (h.opt hi) (h.opt mx) (h.eval hx) hv
      exact ⟨z, W, by simp [execOp, h1], h, h2⟩
    · simp at hv
  · rename_i t parts
    obtain ⟨z, h1, h2⟩ := build_run (us := parts.map fun (i, x) => (i, a.eval x)) (by simpa using h.parts parts.toList) hv
    exact ⟨z, W, by simp [execOp, h1], h, h2⟩
  · rename_i t len parts
    obtain ⟨z, W', h1, h2, h3⟩ := litS_run h hH (us := parts.map fun (i, x) => (i, a.eval x)) (by simpa using h.parts parts.toList) hv
    exact ⟨z, W', by simp [execOp, h1], h2, h3⟩
  · rename_i c
    exact absurd rfl (hcall c)
  · simp at hv
end
end Go.Proofs.YtlhjljplfmmoaaaGreatDoor.Ev
/- Soundness of the evaluator, part 12: names that come, are written, and are changed. -/
namespace Go.Proofs.YtlhjljplfmmoaaaGreatDoor.Ev
open Go Go.RowKit
section
variable {P : Program} {S0 H H' : Nat → Prop} {n0 : Nat} {w0 : World} {st : St} {a : Act} {W W' : World} {A : List (Array Value)} {μ μ' : Mu} {S S' : Nat → Prop} {so so' : Store}
theorem same_new (hsz : W.heap.size ≤ W'.heap.size) (hB : Below W.heap.size W W') (hH : ∀ b, H' b → H b ∨ W.heap.size ≤ b) : Same (free S0 n0 H μ so W) (free S0 n0 H' μ so W') W W' :=
  ⟨fun b hb => ⟨free_sub (fun k hk => hk) hsz hH hb, fun hlt => hB.block b hlt⟩⟩
/-- A block that was just made is given a name. -/
theorem Rel.new (h : Rel P S0 n0 w0 noH st a W A μ) (k : Nat) (o : SO) (cap : Nat) (hsz : W'.heap.size = W.heap.size + 1) (hB : Below W.heap.size W W')
    (ho : RepO P (free S0 n0 (fun b => b = W.heap.size) μ (st.kill k).so W') μ (st.kill k).so W' W.heap.size cap o) :
    Rel P S0 n0 w0 noH (st.new k o) a W' A (fun j => if j = k then some (W.heap.size, cap) else μ j) := by
  have h1 := h.kill k
  have h2 := h1.world (H' := fun b => b = W.heap.size) (W' := W') (h.below.trans (hB.mono h.old)) (by omega) (fun b hb _ => hB.block b hb) (fun b hb => .inr (by omega))
  have hg : (st.kill k).so.get k = none := by
    have := kill_get st k k
    rw [if_pos rfl] at this
    cases hh : (st.kill k).so.get k with
    | none => rfl
    | some _ => rw [hh] at this; simp at this
  have h3 := h2.ins k hg o W.heap.size cap rfl (by omega) ho
  exact h3.unhold (fun b hb => hb.elim)
/-- A name for nothing: a nil slice. -/
theorem Rel.newNone (h : Rel P S0 n0 w0 H st a W A μ) (k : Nat) (hk : st.so.get k = none) (o : SO) :
    Rel P S0 n0 w0 H (st.withSo (st.so.ins k o)) a W A (fun j => if j = k then none else μ j) := by
  have hfr : ∀ b, free S0 n0 H μ st.so W b → free S0 n0 H (fun j => if j = k then none else μ j) (st.so.ins k o) W b := by
    rintro b ⟨h1, h2, h3, h4⟩
    refine ⟨h1, h2, h3, fun j c hj hc => ?_⟩
    by_cases hjk : j = k
    · subst hjk; simp at hc
    · simp only [hjk, if_false] at hc
      rw [get_ins, if_neg hjk] at hj
      exact h4 j c hj hc
  have hS := same_sub (W := W) hfr
  have hK : ∀ j, (st.so.get j).isSome = true → Keep μ (fun j => if j = k then none else μ j) st.so (st.so.ins k o) j := fun j hj => by
    have hjk : j ≠ k := by rintro rfl; simp [hk] at hj
    exact ⟨by simp [hjk], fun e xs hx => ⟨xs, by rw [get_ins, if_neg hjk, hx], rfl⟩, fun cs hx => ⟨cs, by rw [get_ins, if_neg hjk, hx]⟩⟩
  have hT : Turns P (free S0 n0 H μ st.so W) _ μ _ st.so _ W W id := fun v u hr => hr.keep' hS hK
  have hs3 : ∀ v u, Rep3 P (free S0 n0 H μ st.so W) μ st.so W v u → Rep3 P _ _ _ W v u := fun v u hr => by
    have := hT.three hr
    rwa [map3_id] at this
  refine ⟨h.below, h.old, h.s0, fun b hb => ⟨(h.held b hb).1, fun j c hj hc => ?_⟩, h.defers, h.size, fun i v hv => ?_, ⟨h.sus.1, fun q l t hl ht => ⟨(h.sus.2 q l t hl ht).1, fun i v hv => ?_⟩⟩, fun j o' hj c hc => ?_, fun j j' c c' hj hj' hc hc' he => ?_⟩
  · by_cases hjk : j = k
    · subst hjk; simp at hc
    · simp only [hjk, if_false] at hc
      simp only [St.withSo] at hj
      rw [get_ins, if_neg hjk] at hj
      exact (h.held b hb).2 j c hj hc
  · obtain ⟨u, hu, hr⟩ := h.slots i v hv
    exact ⟨u, hu, hs3 _ _ hr⟩
  · obtain ⟨u, hu, hr⟩ := (h.sus.2 q l t hl ht).2 i v hv
    exact ⟨u, hu, hs3 _ _ hr⟩
  · simp only [St.withSo] at hj
    rw [get_ins] at hj
    by_cases hjk : j = k
    · subst hjk; simp at hc
    · simp only [hjk, if_false] at hj hc
      obtain ⟨h1, h2, h3⟩ := h.obj j o' hj c hc
      have := RepO.turn h3 hT hS rfl
      exact ⟨h1, h2, by cases o' <;> simpa [SO.map, St.withSo] using this⟩
  · simp only [St.withSo] at hj hj'
    rw [get_ins] at hj hj'
    by_cases hjk : j = k
    · subst hjk; simp at hc
    · by_cases hjk' : j' = k
      · subst hjk'; simp at hc'
      · simp only [hjk, hjk', if_false] at hj hj' hc hc'
        exact h.inj j j' c c' hj hj' hc hc' he
theorem Rel.newNil (h : Rel P S0 n0 w0 H st a W A μ) (k : Nat) (hk : st.so.get k = none) (e : TypeId) :
    Rel P S0 n0 w0 H (st.withSo (st.so.ins k (.row e []))) a W A (fun j => if j = k then none else μ j) := h.newNone k hk _
/-- Two objects of one kind and length. -/
def alike : SO → SO → Prop
  | .box _, .box _ => True
  | .row e xs, .row e' ys => e = e' ∧ ys.length = xs.length
  | _, _ => False
/-- The block named k is written. -/
theorem Rel.write (h : Rel P S0 n0 w0 noH st a W A μ) {k b cap : Nat} {o o' : SO} (hk : st.so.get k = some o) (hm : μ k = some (b, cap)) (ha : alike o o') (hsz : W'.heap.size = W.heap.size)
    (hB : Below n0 W W') (hoth : ∀ b', b' ≠ b → W'.heap[b']? = W.heap[b']?)
    (ho : Same (free S0 n0 noH μ st.so W) (free S0 n0 noH μ (st.so.ins k o') W') W W' → (∀ v u, Rep1 P (free S0 n0 noH μ st.so W) μ st.so W v u → Rep1 P (free S0 n0 noH μ (st.so.ins k o') W') μ (st.so.ins k o') W' v u) → RepO P (free S0 n0 noH μ (st.so.ins k o') W') μ (st.so.ins k o') W' b cap o') :
    Rel P S0 n0 w0 noH (st.withSo (st.so.ins k o')) a W' A μ := by
  have hsome : ∀ j, ((st.so.ins k o').get j).isSome = (st.so.get j).isSome := fun j => by
    rw [get_ins]
    split
    · rename_i e; subst e; rw [hk]; rfl
    · rfl
  have hS : Same (free S0 n0 noH μ st.so W) (free S0 n0 noH μ (st.so.ins k o') W') W W' := by
    refine ⟨fun b' hb' => ⟨free_sub (fun j hj => by rw [hsome] at hj; exact hj) (by omega) (fun b hb => .inl hb) hb', fun _ => hoth b' ?_⟩⟩
    rintro rfl
    exact hb'.2.2.2 k (b', cap) (by rw [hk]; rfl) hm rfl
  have hK : ∀ j, (st.so.get j).isSome = true → Keep μ μ st.so (st.so.ins k o') j := fun j hj => by
    refine ⟨rfl, fun e xs hx => ?_, fun cs hx => ?_⟩
    · rw [get_ins]
      split
      · rename_i e'; subst e'
        rw [hk] at hx
        obtain rfl := Option.some.inj hx
        cases o' with
        | box _ => exact ha.elim
        | row e' ys =>
          obtain ⟨rfl, hl⟩ := ha
          exact ⟨ys, rfl, hl⟩
      · exact ⟨xs, hx, rfl⟩
    · rw [get_ins]
      split
      · rename_i e'; subst e'
        rw [hk] at hx
        obtain rfl := Option.some.inj hx
        cases o' with
        | box cs' => exact ⟨cs', rfl⟩
        | row _ _ => exact ha.elim
      · exact ⟨cs, hx⟩
  have hT : Turns P (free S0 n0 noH μ st.so W) (free S0 n0 noH μ (st.so.ins k o') W') μ μ st.so (st.so.ins k o') W W' id := fun v u hr => hr.keep' hS hK
  have hs3 : ∀ v u, Rep3 P (free S0 n0 noH μ st.so W) μ st.so W v u → Rep3 P (free S0 n0 noH μ (st.so.ins k o') W') μ (st.so.ins k o') W' v u := fun v u hr => by
    have := hT.three hr
    rwa [map3_id] at this
  refine ⟨h.below.trans hB, by have := h.old; omega, h.s0, fun b hb => hb.elim, h.defers, h.size, fun i v hv => ?_, ⟨h.sus.1, fun q l t hl ht => ⟨(h.sus.2 q l t hl ht).1, fun i v hv => ?_⟩⟩, fun j o1 hj c hc => ?_, fun j j' c c' hj hj' hc hc' he => ?_⟩
  · obtain ⟨u, hu, hr⟩ := h.slots i v hv
    exact ⟨u, hu, hs3 _ _ hr⟩
  · obtain ⟨u, hu, hr⟩ := (h.sus.2 q l t hl ht).2 i v hv
    exact ⟨u, hu, hs3 _ _ hr⟩
  · simp only [St.withSo] at hj ⊢
    rw [get_ins] at hj
    by_cases hjk : j = k
    · subst hjk
      simp only [if_true, Option.some.injEq] at hj
      subst hj
      rw [hm] at hc
      obtain rfl := Option.some.inj hc
      obtain ⟨h1, h2, _⟩ := h.obj j o hk _ hm
      exact ⟨h1, by omega, ho hS (fun v u hr => hT v u hr)⟩
    · simp only [hjk, if_false] at hj
      obtain ⟨h1, h2, h3⟩ := h.obj j o1 hj c hc
      have hne : c.1 ≠ b := fun he => hjk (h.inj j k c (b, cap) (by rw [hj]; rfl) (by rw [hk]; rfl) hc hm he)
      have := RepO.turn h3 hT hS (hoth _ hne)
      exact ⟨h1, by omega, by cases o1 <;> simpa [SO.map] using this⟩
  · simp only [St.withSo] at hj hj'
    rw [hsome] at hj hj'
    exact h.inj j j' c c' hj hj' hc hc' he
/-- What is named k is named n. -/
theorem Rel.name (h : Rel P S0 n0 w0 noH st a W A μ) (k n : Nat) : ∃ μ', Rel P S0 n0 w0 noH (st.name k n) a W A μ' ∧ (∀ b, free S0 n0 noH μ st.so W b → free S0 n0 noH μ' (st.name k n).so W b) := by
  unfold St.name
  split
  · exact ⟨μ, h, fun b hb => hb⟩
  · rename_i hkn
    have h1 := h.kill n
    have hn0 : ((st.kill n).so.get n) = none := by
      have := kill_get st n n
      rw [if_pos rfl] at this
      cases hh : (st.kill n).so.get n with
      | none => rfl
      | some _ => rw [hh] at this; simp at this
    have hf1 : ∀ b, free S0 n0 noH μ st.so W b → free S0 n0 noH μ (st.kill n).so W b := fun b hb => free_sub (fun j hj => kill_sub st n j hj) (Nat.le_refl _) (fun b hb => .inl hb) hb
    split
    · exact ⟨μ, h1, hf1⟩
    · rename_i o ho
      let μ1 : Mu := fun j => if j = n then μ k else μ j
      let so1 : Store := ((st.kill n).so.del k).ins n o
      have hget : ∀ j, so1.get j = if j = n then some o else if j = k then none else (st.kill n).so.get j := fun j => by
        simp only [so1]
        rw [get_ins, get_del]
      -- the names of the two states match
      have hso : ∀ j, (so1.get j).isSome = true → ∃ i, ((st.kill n).so.get i).isSome = true ∧ μ1 j = μ i ∧ (j = n → i = k) ∧ (j ≠ n → i = j ∧ j ≠ k) := fun j hj => by
        rw [hget] at hj
        by_cases hjn : j = n
        · subst hjn
          exact ⟨k, by rw [ho]; rfl, by simp [μ1], fun _ => rfl, fun h => absurd rfl h⟩
        · rw [if_neg hjn] at hj
          by_cases hjk : j = k
          · rw [if_pos hjk] at hj; simp at hj
          · rw [if_neg hjk] at hj
            exact ⟨j, hj, by simp [μ1, hjn], fun e => absurd e hjn, fun _ => ⟨rfl, hjk⟩⟩
      have hfr : ∀ (f : TV → TV) b, free S0 n0 noH μ (st.kill n).so W b → free S0 n0 noH μ1 (mapSo f so1) W b := by
        rintro f b ⟨g1, g2, g3, g4⟩
        refine ⟨g1, g2, g3, fun j c hj hc => ?_⟩
        rw [isSome_mapSo] at hj
        obtain ⟨i, hi, hm, _⟩ := hso j hj
        rw [hm] at hc
        exact g4 i c hi hc
      have hS := same_sub (W := W) (hfr (name1 k n))
      have hT : Turns P (free S0 n0 noH μ (st.kill n).so W) (free S0 n0 noH μ1 (mapSo (name1 k n) so1) W) μ μ1 (st.kill n).so (mapSo (name1 k n) so1) W W (name1 k n) := by
        intro v u hr
        cases v with
        | row j off len =>
          obtain ⟨e, xs, s, g1, g2, g3, g4⟩ := hr
          by_cases hjk : j = k
          · subst hjk
            rw [ho] at g1
            obtain rfl := Option.some.inj g1
            simp only [name1, if_true]
            refine ⟨e, xs, s, by rw [get_mapSo, hget, if_pos rfl]; rfl, g2, g3, ?_⟩
            have : μ1 n = μ j := by simp [μ1]
            rw [this]
            exact g4
          · have hjn : j ≠ n := by rintro rfl; rw [hn0] at g1; simp at g1
            simp only [name1, hjk, if_false]
            refine ⟨e, xs, s, by rw [get_mapSo, hget, if_neg hjn, if_neg hjk, g1]; rfl, g2, g3, ?_⟩
            have : μ1 j = μ j := by simp [μ1, hjn]
            rw [this]
            exact g4
        | ptr j i off =>
          obtain ⟨b, cap, g1, g2⟩ := hr
          by_cases hjk : j = k
          · subst hjk
            simp only [name1, if_true]
            have hm : μ1 n = μ j := by simp [μ1]
            refine ⟨b, cap, by rw [hm]; exact g1, ?_⟩
            rcases g2 with ⟨cs, g3, g4⟩ | ⟨e, xs, s, g3, g4, g5⟩
            · rw [ho] at g3
              obtain rfl := Option.some.inj g3
              exact .inl ⟨_, by rw [get_mapSo, hget, if_pos rfl]; rfl, g4⟩
            · rw [ho] at g3
              obtain rfl := Option.some.inj g3
              exact .inr ⟨e, xs, s, by rw [get_mapSo, hget, if_pos rfl]; rfl, g4, g5⟩
          · have hjn : j ≠ n := by
              rintro rfl
              rcases g2 with ⟨cs, g3, _⟩ | ⟨e, xs, s, g3, _⟩ <;> (rw [hn0] at g3; simp at g3)
            simp only [name1, hjk, if_false]
            have hm : μ1 j = μ j := by simp [μ1, hjn]
            refine ⟨b, cap, by rw [hm]; exact g1, ?_⟩
            rcases g2 with ⟨cs, g3, g4⟩ | ⟨e, xs, s, g3, g4, g5⟩
            · exact .inl ⟨_, by rw [get_mapSo, hget, if_neg hjn, if_neg hjk, g3]; rfl, g4⟩
            · exact .inr ⟨e, xs, s, by rw [get_mapSo, hget, if_neg hjn, if_neg hjk, g3]; rfl, g4, g5⟩
        | undef => trivial
        | skip => trivial
        | val w => exact hr
        | nil => exact hr
        | sl xs => exact Rep.step hr hS.keep
        | fn f xs => exact Rep.step hr hS.keep
        | rd cs => exact Rep1.keep (v := .rd cs) hr hS (fun j hj => by simp [ref1] at hj)
        | agg cs => exact hr.elim
        | tup ts => exact hr.elim
      refine ⟨μ1, ?_, fun b hb => hfr _ b (hf1 b hb)⟩
      have := h1.turn (μ' := μ1) (W' := W) (H' := noH) (name1 k n) so1 h1.below (Nat.le_refl _) hT (fun j o1 c hj hc => ?_) (fun j j' c c' hj hj' hc hc' he => ?_) (fun b hb => hb.elim)
      · exact this
      · obtain ⟨i, hi, hm, hi1, hi2⟩ := hso j (by rw [hj]; rfl)
        rw [hm] at hc
        have hoi : (st.kill n).so.get i = some o1 := by
          rw [hget] at hj
          by_cases hjn : j = n
          · rw [if_pos hjn] at hj
            obtain rfl := Option.some.inj hj
            rw [hi1 hjn]; exact ho
          · rw [if_neg hjn, if_neg (hi2 hjn).2] at hj
            rw [(hi2 hjn).1]; exact hj
        obtain ⟨g1, g2, g3⟩ := h1.obj i o1 hoi c hc
        exact ⟨g1, g2, RepO.turn g3 hT hS rfl⟩
      · obtain ⟨i, hi, hm, hi1, hi2⟩ := hso j hj
        obtain ⟨i', hi', hm', hi1', hi2'⟩ := hso j' hj'
        rw [hm] at hc
        rw [hm'] at hc'
        have hii := h1.inj i i' c c' hi hi' hc hc' he
        by_cases hjn : j = n
        · by_cases hjn' : j' = n
          · rw [hjn, hjn']
          · have e1 := hi1 hjn
            have e2 := hi2' hjn'
            exact absurd (e2.1.symm.trans (hii.symm.trans e1)) e2.2
        · by_cases hjn' : j' = n
          · have e1 := hi1' hjn'
            have e2 := hi2 hjn
            exact absurd (e2.1.symm.trans (hii.trans e1)) e2.2
          · rw [← (hi2 hjn).1, ← (hi2' hjn').1]; exact hii
end
end Go.Proofs.YtlhjljplfmmoaaaGreatDoor.Ev
/- Soundness of the evaluator, part 13: variables and rows that are made. -/
namespace Go.Proofs.YtlhjljplfmmoaaaGreatDoor.Ev
open Go Go.RowKit
section
variable {P : Program} {S0 H H' : Nat → Prop} {n0 : Nat} {w0 : World} {st st1 : St} {a : Act} {W W' : World} {A : List (Array Value)} {μ μ' : Mu} {S S' : Nat → Prop} {so so' : Store}
theorem kill_none (st : St) (k : Nat) : (st.kill k).so.get k = none := by
  have := kill_get st k k
  rw [if_pos rfl] at this
  cases hh : (st.kill k).so.get k with
  | none => rfl
  | some _ => rw [hh] at this; simp at this
theorem kill_kill (st : St) (k : Nat) : (st.kill k).kill k = st.kill k := by
  have : ∀ s : St, s.so.get k = none → s.kill k = s := fun s hs => by unfold St.kill; rw [hs]
  exact this _ (kill_none st k)
theorem alloc_cells (W : World) (o : Obj) : (W.alloc o).heap[W.heap.size]? = some o := heap_alloc_new W o
theorem new_get (st : St) (k : Nat) (o : SO) : (st.new k o).so.get k = some o := by
  simp only [St.new, St.withSo]
  rw [get_ins, if_pos rfl]
theorem newBox_run (h : Rel P S0 n0 w0 noH st a W A μ) {key d : Nat} {sz : Option Nat} {v : Option TV} {u : Value} {t : TypeId} (hv : ∀ w, v = some w → Rep3 P (free S0 n0 noH μ (st.kill key).so W) μ (st.kill key).so W w u)
    (hs : newBox st key d sz v = some st1) : ∃ μ', Rel P S0 n0 w0 noH st1 (a.put (some d) (.pointer (some ⟨W.heap.size, 0, none⟩))) (W.alloc (.cells u.cells t)) A μ' := by
  unfold newBox at hs
  split at hs
  · rename_i w
    split at hs
    · rename_i hc
      obtain rfl := Option.some.inj hs
      obtain ⟨c1, c2⟩ := cells_rep (hv w rfl) hc.1
      have hnew := h.new (W' := W.alloc (.cells u.cells t)) key (.box w.cells) 0 (alloc_size W _) (alloc_below W _) ⟨u.cells, t, alloc_cells W _, c1, fun j c hj => by
        obtain ⟨z, hz, hr, ho⟩ := c2 j c hj
        exact ⟨z, hz, ho, hr.keep' (same_new (by rw [alloc_size]; omega) (alloc_below W _) (fun b hb => .inr (by omega))) fun k _ => ⟨rfl, fun e xs hx => ⟨xs, hx, rfl⟩, fun cs hx => ⟨cs, hx⟩⟩⟩⟩
      exact ⟨_, hnew.put (some d) (v := .ptr key 0 0) ⟨W.heap.size, 0, by simp, .inl ⟨w.cells, new_get st key _, rfl, rfl⟩⟩⟩
    · simp at hs
  · simp at hs
theorem wp_value {o : Oper} {K : Act → World → Prop} {Q : Exit → Act → World → Prop} {z : Value} (h : (execOp a.eval o).run P W = .ok (.value z) W') (hK : K (a.put o.dst z) W') : o.wp P a W K Q := by
  unfold Oper.wp
  rw [h]
  exact hK
theorem wp_skipped {o : Oper} {K : Act → World → Prop} {Q : Exit → Act → World → Prop} (h : (execOp a.eval o).run P W = .ok .skip W') (hK : K (a.put o.dst undef) W') : o.wp P a W K Q := by
  unfold Oper.wp
  rw [h]
  exact hK
theorem newVar_run (t : TypeId) (u : Value) : (newVar t u).run P W = .ok ⟨W.heap.size, 0, none⟩ (W.alloc (.cells u.cells t)) := by
  simp [newVar, newRow]
theorem ofVal1_rows {v : Value} {t : TV} (h : ofVal1 v = some t) : rowsIn1 t = [] := by
  unfold ofVal1 at h
  split at h
  · obtain rfl := Option.some.inj h; rfl
  · split at h
    · obtain rfl := Option.some.inj h; rfl
    · simp at h
theorem ofVals_rows : ∀ {vs : List Value} {ts : List TV}, ofVals vs = some ts → ts.flatMap rowsIn1 = [] := by
  intro vs
  induction vs with
  | nil => intro ts h; simp [ofVals] at h; subst h; rfl
  | cons v vs ih =>
    intro ts h
    simp only [ofVals] at h
    split at h
    · rename_i x xs hx hxs
      obtain rfl := Option.some.inj h
      simp [ofVal1_rows hx, ih hxs]
    · simp at h
theorem ofVal_rows {v : Value} {t : TV} (h : ofVal v = some t) : rowsIn t = [] := by
  unfold ofVal at h
  split at h
  · split at h
    · rename_i xs hxs
      obtain rfl := Option.some.inj h
      exact ofVals_rows hxs
    · simp at h
  · rename_i hv
    have h1 := ofVal1_rows h
    unfold ofVal1 at h
    split at h
    · obtain rfl := Option.some.inj h; rfl
    · split at h
      · obtain rfl := Option.some.inj h; rfl
      · simp at h
theorem zeroPV_rep (h : Rel P S0 n0 w0 noH st a W A μ) {e : TypeId} {z : PV} (hz : zeroPV P st.so e = some z) : ∃ u i, P.info? e = some i ∧ i.zero = some u ∧ RepV (free S0 n0 noH μ st.so W) W z u := by
  unfold zeroPV at hz
  split at hz
  · rename_i t ht
    obtain ⟨u, _, hof, i, hi, hiz⟩ := run_zeroValue (P := P) (W := W) ht
    exact ⟨u, i, hi, hiz, h.pv (fun b hb => hb) hz (ofVal_rep hof).one (by rw [ofVal_rows hof]; intro k hk; simp at hk)⟩
  · simp at hz
theorem alloc_op (h : Rel P S0 n0 w0 noH st a W A μ) {o : Oper} {t : TypeId} (ho : o.op = .alloc t) {d key : Nat} (hd : o.dst = some d) (hs : newBox st key d (sizeT P t) (zeroT P t) = some st1)
    {K : Act → World → Prop} {Q : Exit → Act → World → Prop} (hK : ∀ a' W' μ', Rel P S0 n0 w0 noH st1 a' W' A μ' → K a' W') : o.wp P a W K Q := by
  cases hz : zeroT P t with
  | none => rw [hz] at hs; simp [newBox] at hs
  | some z =>
    obtain ⟨u, hu, hof, _⟩ := run_zeroValue (P := P) (W := W) hz
    obtain ⟨μ', hR⟩ := newBox_run h (u := u) (t := t) (fun w hw => by
      rw [hz] at hw
      obtain rfl := Option.some.inj hw
      exact (ofVal_rep hof).one) hs
    refine wp_value (z := .pointer (some ⟨W.heap.size, 0, none⟩)) (W' := W.alloc (.cells u.cells t)) ?_ (by rw [hd]; exact hK _ _ _ hR)
    simp [execOp, ho, Instr.alloc, hu, newVar_run]
theorem box_op (h : Rel P S0 n0 w0 noH st a W A μ) {o : Oper} {t : TypeId} {x : Operand} (ho : o.op = .box t x) {d key : Nat} (hd : o.dst = some d) {sz : Option Nat} (hs : newBox (st.kill key) key d sz (rdv (st.kill key).tm x) = some st1)
    {K : Act → World → Prop} {Q : Exit → Act → World → Prop} (hK : ∀ a' W' μ', Rel P S0 n0 w0 noH st1 a' W' A μ' → K a' W') : o.wp P a W K Q := by
  obtain ⟨μ', hR⟩ := newBox_run (h.kill key) (u := a.eval x) (t := t) (fun w hw => by
    rw [kill_kill]
    exact (h.kill key).eval hw) hs
  refine wp_value (z := .pointer (some ⟨W.heap.size, 0, none⟩)) (W' := W.alloc (.cells (a.eval x).cells t)) ?_ (by rw [hd]; exact hK _ _ _ hR)
  simp [execOp, ho, Instr.box, newVar_run]
/-- A row that was just made is named. -/
theorem newRow_run (h : Rel P S0 n0 w0 noH st a W A μ) (key d : Nat) {e : TypeId} {xs : List PV} {arr : Array Value} {len cap s : Nat} (hs : sizeT P e = some s) (hs0 : 0 < s) (hsz : arr.size = cap * s) (hl : xs.length = len) (hlc : len ≤ cap) (hm : cap ≤ maxLen) (hc : ∀ x, x ∈ xs → x.cells.length = s)
    (hx : ∀ (i : Nat) (x : PV) (q : Nat) (y : PV), xs[i]? = some x → x.cells[q]? = some y → ∃ u, arr[i * s + q]? = some u ∧ Rep (free S0 n0 noH μ st.so W) W y u) :
    ∃ μ', Rel P S0 n0 w0 noH ((st.new key (.row e xs)).put (some d) (.row key 0 len)) (a.put (some d) (.slice (some ⟨W.heap.size, 0, none⟩) len cap)) (W.alloc (.cells arr e)) A μ' := by
  have hnew := h.new (W' := W.alloc (.cells arr e)) key (.row e xs) cap (alloc_size W _) (alloc_below W _) ⟨arr, s, fun i q => (arr[i * s + q]?).getD default, alloc_cells W _, hs, hs0, hsz, hm, by omega, hc, fun i x q y hi hq => by
    obtain ⟨u, hu, hr⟩ := hx i x q y hi hq
    have hf : (arr[i * s + q]?).getD default = u := by rw [hu]; rfl
    refine ⟨by simp [hu], ?_⟩
    show Rep _ _ y ((arr[i * s + q]?).getD default)
    rw [hf]
    exact hr.step fun k hk => ⟨free_sub (W := W) (W' := W.alloc (.cells arr e)) (so := st.so) (fun j hj => kill_sub st key j hj) (by rw [alloc_size]; omega) (fun b hb => .inr (by omega)) hk, fun hlt => (alloc_below W _).block k hlt⟩⟩
  exact ⟨_, hnew.put (some d) (v := .row key 0 len) ⟨e, xs, s, new_get st key _, hs, by omega, .inr ⟨W.heap.size, cap, _, cap, by simp, rfl, hlc, hm, fun _ => ⟨by rw [Nat.zero_mul], rfl⟩⟩⟩⟩
theorem lit_op (h : Rel P S0 n0 w0 noH st a W A μ) {o : Oper} {t : TypeId} {len : Nat} {parts : Array (Nat × Operand)} (ho : o.op = .buildSlice t len parts) {d key : Nat} (hd : o.dst = some d)
    (hs : newLit st key d (partRows (rdParts (rdv st.tm) parts.toList)) (elemT P t) (litTV P st.so t len (rdParts (rdv st.tm) parts.toList)) = some st1)
    {K : Act → World → Prop} {Q : Exit → Act → World → Prop} (hK : ∀ a' W' μ', Rel P S0 n0 w0 noH st1 a' W' A μ' → K a' W') : o.wp P a W K Q := by
  unfold newLit at hs
  split at hs
  · rename_i e xs he hxs
    obtain rfl := Option.some.inj hs
    obtain ⟨e', s, arr, h1, h2, h3, h4, h5, h6, h7, h8, h9⟩ := lit_run h (S' := free S0 n0 noH μ (sealAll (partRows (rdParts (rdv st.tm) parts.toList)) st).so W) (fun b hb => free_sub (fun j hj => sealAll_sub _ st j hj) (Nat.le_refl _) (fun b hb => .inl hb) hb)
      (us := parts.map fun (i, x) => (i, a.eval x)) (by simpa using h.parts parts.toList) hxs (fun k hk e xs hx c hc => sealAll_free _ h k hk e xs hx c hc)
    rw [he] at h1
    obtain rfl := Option.some.inj h1
    obtain ⟨μ', hR⟩ := newRow_run (h.sealAll _) key d h2 h3 h4 h5 (Nat.le_refl _) h6 h7 h8
    refine wp_value (z := .slice (some ⟨W.heap.size, 0, none⟩) len len) (W' := W.alloc (.cells arr e)) ?_ (by rw [hd]; exact hK _ _ _ (by rw [h5]; exact hR))
    simp [execOp, ho, h9]
  · simp at hs
theorem make_op (h : Rel P S0 n0 w0 noH st a W A μ) {o : Oper} {t : TypeId} {l c : Operand} (ho : o.op = .makeSlice t l c) {d key : Nat} (hd : o.dst = some d) (hs : evMake P st key d t (rdv st.tm l) (rdv st.tm c) = some st1)
    {K : Act → World → Prop} {Q : Exit → Act → World → Prop} (hK : ∀ a' W' μ', Rel P S0 n0 w0 noH st1 a' W' A μ' → K a' W') : o.wp P a W K Q := by
  unfold evMake at hs
  split at hs
  · rename_i n m hln hcm
    split at hs
    · rename_i e he
      split at hs
      · rename_i b s z hb hsz hz
        split at hs
        · rename_i hcond
          obtain ⟨c1, c2, c3, c4, c5⟩ := hcond
          obtain rfl := Option.some.inj hs
          obtain ⟨h2, h3⟩ := rowSize_some hsz
          obtain ⟨u, i, hi, hiz, hrz⟩ := zeroPV_rep h hz
          obtain ⟨hl1, _⟩ := h.eval hln
          obtain ⟨hc1, _⟩ := h.eval hcm
          have his : i.size = s := by unfold sizeT at h2; simpa [hi] using h2
          have hib : i.bytes = b := by unfold bytesT at hb; simpa [hi] using hb
          obtain ⟨g1, g2⟩ := pv_cells hrz
          have hrun := run_make (P := P) W t e i u (elemT_eq he) hi hiz .i64 .i64 n m c2 c3 (by rw [hib, Int.mul_comm]; exact c5) c4
          rw [his] at hrun
          obtain ⟨μ', hR⟩ := newRow_run h key d (xs := List.replicate n.toNat z) (len := n.toNat) (cap := m.toNat) (arr := madeCells u.cells (m.toNat * s)) h2 h3 (size_madeCells _ _) (by simp) (by omega) (by simp only [maxLen]; omega)
            (fun x hx => by rw [(List.mem_replicate.1 hx).2]; exact c1) (fun k x q y hk hq => by
              obtain ⟨hkn, rfl⟩ : k < n.toNat ∧ x = z := by
                rw [List.getElem?_replicate] at hk
                split at hk
                · exact ⟨by assumption, (Option.some.inj hk).symm⟩
                · simp at hk
              have hqs : q < s := by
                have := (List.getElem?_eq_some_iff.1 hq).1
                omega
              obtain ⟨w, hw, hr⟩ := g2 q y hq
              refine ⟨w, ?_, hr⟩
              have hlt : k * s + q < m.toNat * s := by
                have : (k + 1) * s ≤ m.toNat * s := Nat.mul_le_mul_right _ (by omega)
                rw [Nat.add_mul, Nat.one_mul] at this
                omega
              have hmod : (k * s + q) % u.cells.size = q := by
                rw [g1, c1, Nat.add_comm, Nat.add_mul_mod_self_right, Nat.mod_eq_of_lt hqs]
              simp only [madeCells, Array.getElem?_map, Array.getElem?_range, hlt, if_true, Option.map_some, hmod]
              rw [Array.getElem!_eq_getD, Array.getD_eq_getD_getElem?, hw]
              rfl)
          refine wp_value (z := .slice (some ⟨W.heap.size, 0, none⟩) n.toNat m.toNat) (W' := W.alloc (.cells (madeCells u.cells (m.toNat * s)) e)) ?_ (by rw [hd]; exact hK _ _ _ hR)
          simp [execOp, ho, hl1, hc1, hrun]
        · simp at hs
      · simp at hs
    · simp at hs
  · simp at hs
end
end Go.Proofs.YtlhjljplfmmoaaaGreatDoor.Ev
/- Soundness of the evaluator, part 14: stores. -/
namespace Go.Proofs.YtlhjljplfmmoaaaGreatDoor.Ev
open Go Go.RowKit
section
variable {P : Program} {S0 H H' : Nat → Prop} {n0 : Nat} {w0 : World} {st st1 : St} {a : Act} {W W' : World} {A : List (Array Value)} {μ μ' : Mu} {S S' : Nat → Prop} {so so' : Store}
theorem seg_puts (arr : Array Value) (o : Nat) (vs : List Value) (hle : o + vs.length ≤ arr.size) : (arr.toList.take o ++ vs ++ arr.toList.drop (o + vs.length)).toArray = puts arr o vs := by
  apply Array.ext_getElem?
  intro j
  rw [getElem?_puts, List.getElem?_toArray, List.append_assoc, List.getElem?_append, List.getElem?_append]
  simp only [List.length_take, Array.length_toList, List.getElem?_take, List.getElem?_drop, Array.getElem?_toList]
  have hm : min o arr.size = o := by omega
  rw [hm]
  by_cases h1 : j < o
  · rw [if_pos h1, if_pos h1, if_neg (by omega)]
  · rw [if_neg h1]
    by_cases h2 : j - o < vs.length
    · rw [if_pos h2, if_pos (by omega)]
    · rw [if_neg h2, if_neg (by omega)]
      congr 1
      omega
theorem storeAt_run {b o : Nat} {arr : Array Value} {t t' : TypeId} {u : Value} (hg : W.heap[b]? = some (.cells arr t' (0, 0))) (hn : sizeT P t = some u.cells.size) (hle : o + u.cells.size ≤ arr.size) (h1 : ∀ (j : Nat) (z : Value), u.cells[j]? = some z → z.oneCell' = true) :
    (Instr.storeAt t (.pointer (some ⟨b, o, none⟩)) u).run P W = .ok () (W.setRow b (puts arr o u.cells.toList)) := by
  have := run_storeCells_at P b o t' u.cells.toList 0 arr W hg (by simpa using hle) (fun v hv => by
    obtain ⟨j, hj⟩ := List.mem_iff_getElem?.1 hv
    exact h1 j v (by simpa using hj))
  simp only [Nat.add_zero] at this
  rw [seg_puts arr o _ (by simpa using hle)] at this
  simp [Instr.storeAt, Instr.sureAddr, storeVar, run_sizeOf hn, this]
theorem setRow_size (w : World) (g : Nat) (cs : Array Value) : (w.setRow g cs).heap.size = w.heap.size := by simp [World.setRow]
theorem setRow_below (w : World) (g : Nat) (cs : Array Value) (n : Nat) (h : n ≤ g) : Below n w (w.setRow g cs) :=
  ⟨rfl, rfl, rfl, by rw [setRow_size]; exact Nat.le_refl _, fun k hk => setRow_other w g k cs (by omega)⟩
theorem RepO.mkRow {b cap s : Nat} {e : TypeId} {xs : List PV} {arr : Array Value} (h1 : W.heap[b]? = some (.cells arr e (0, 0))) (h2 : sizeT P e = some s) (h3 : 0 < s) (h4 : arr.size = cap * s) (h5 : cap ≤ maxLen) (h6 : xs.length ≤ cap) (h7 : ∀ x, x ∈ xs → x.cells.length = s)
    (h8 : ∀ (i : Nat) (x : PV) (q : Nat) (y : PV), xs[i]? = some x → x.cells[q]? = some y → ∃ u, arr[i * s + q]? = some u ∧ Rep S W y u) : RepO P S μ so W b cap (.row e xs) := by
  refine ⟨arr, s, fun i q => (arr[i * s + q]?).getD default, h1, h2, h3, h4, h5, h6, h7, fun i x q y hi hq => ?_⟩
  obtain ⟨u, hu, hr⟩ := h8 i x q y hi hq
  have hf : (arr[i * s + q]?).getD default = u := by rw [hu]; rfl
  refine ⟨by simp [hu], ?_⟩
  show Rep _ _ y ((arr[i * s + q]?).getD default)
  rw [hf]
  exact hr
theorem getElem?_putPV (vs : List PV) : ∀ (cs : List PV) (off i : Nat), (putPV cs off vs)[i]? = if off ≤ i ∧ i < off + vs.length ∧ i < cs.length then vs[i - off]? else cs[i]? := by
  induction vs with
  | nil => intro cs off i; rw [if_neg (by simp; omega)]; rfl
  | cons v vs ih =>
    intro cs off i
    simp only [putPV, ih, List.length_set, List.length_cons]
    by_cases h1 : i = off
    · subst h1
      by_cases h2 : i < cs.length
      · rw [if_neg (by omega), if_pos (by omega)]
        simp [h2]
      · rw [if_neg (by omega), if_neg (by omega), List.getElem?_eq_none (by simp; omega), List.getElem?_eq_none (by omega)]
    · rw [List.getElem?_set_ne (Ne.symm h1)]
      by_cases h2 : off + 1 ≤ i ∧ i < off + 1 + vs.length ∧ i < cs.length
      · rw [if_pos h2, if_pos (by omega)]
        obtain ⟨d, rfl⟩ : ∃ d, i = off + 1 + d := ⟨i - (off + 1), by omega⟩
        rw [show off + 1 + d - off = d + 1 by omega, show off + 1 + d - (off + 1) = d by omega]
        rfl
      · rw [if_neg h2, if_neg (by omega)]
theorem length_putPV (vs : List PV) : ∀ (cs : List PV) (off : Nat), (putPV cs off vs).length = cs.length := by
  induction vs with
  | nil => intro cs off; rfl
  | cons v vs ih => intro cs off; simp [putPV, ih]
theorem mkPV_cells {x x' : PV} {cs : List PV} (h : mkPV x cs = some x') (hc : ∀ v, v ∈ cs → v.cells = [v]) : x'.cells = cs := by
  unfold mkPV at h
  split at h
  · obtain rfl := Option.some.inj h; rfl
  · obtain rfl := Option.some.inj h
    exact hc _ (by simp)
  · simp at h
theorem Rep.cells1 {y : PV} {u : Value} (h : Rep S W y u) : y.cells = [y] := by cases h <;> rfl
theorem Rep.oneCell {y : PV} {u : Value} (h : Rep S W y u) : u.oneCell' = true := by
  cases h with
  | val _ hs => cases u <;> first | rfl | (simp [scalarV] at hs)
  | sl xs b c s f h1 h2 h3 h4 h5 h6 => rfl
  | fn => rfl
/-- A store of what leads to no row of the call's own into an element; or of whatever, into a variable. -/
theorem storeSo_run (h : Rel P S0 n0 w0 noH st a W A μ) {t : TypeId} {p v : TV} {pu u : Value} {so1 : Store} (hp : Rep3 P (free S0 n0 noH μ st.so W) μ st.so W p pu) (hv : Rep3 P (free S0 n0 noH μ st.so W) μ st.so W v u)
    (hrows : ∀ k i off e xs, p = .ptr k i off → st.so.get k = some (.row e xs) → rowsIn v = []) (hs : storeSo P st.so t p v = some so1) :
    ∃ W', (Instr.storeAt t pu u).run P W = .ok () W' ∧ Rel P S0 n0 w0 noH (st.withSo so1) a W' A μ := by
  unfold storeSo at hs
  split at hs
  · rename_i k i off
    split at hs
    · rename_i hc
      obtain ⟨c1, c2⟩ := hc
      obtain ⟨g1, g2⟩ := cells_rep hv c1
      obtain ⟨b, cap, hm, hp⟩ := hp
      split at hs
      · rename_i cs hk
        split at hs
        · rename_i hc3
          obtain ⟨rfl, hle⟩ := hc3
          obtain rfl := Option.some.inj hs
          rcases hp with ⟨cs', _, _, rfl⟩ | ⟨e, xs, s, hx, _⟩
          · obtain ⟨hn, hlt, arr, t', q1, q2, q3⟩ := h.obj k _ hk _ hm
            refine ⟨_, storeAt_run q1 (by rw [c2, g1]) (by rw [g1, q2]; exact hle) (fun j z hz => ?_), h.write (cap := cap) hk hm (by trivial) (setRow_size _ _ _) (setRow_below _ _ _ _ hn) (fun b' hb' => setRow_other _ _ _ _ hb') fun hS hT => ?_⟩
            · have hj : j < v.cells.length := by
                have := (Array.getElem?_eq_some_iff.1 hz).1
                omega
              obtain ⟨z', hz', _, ho⟩ := g2 j _ (List.getElem?_eq_getElem hj)
              rw [hz] at hz'
              obtain rfl := Option.some.inj hz'
              exact ho
            · refine ⟨puts arr off u.cells.toList, t', setRow_heap _ _ _ _ _ _ q1, by rw [size_puts, length_putCells, q2], fun j c hj => ?_⟩
              rw [getElem?_putCells] at hj
              rw [getElem?_puts, Array.length_toList, g1, q2]
              split at hj
              · rename_i hc
                rw [if_pos hc]
                obtain ⟨z, hz, hr, ho⟩ := g2 _ c hj
                exact ⟨z, by simpa using hz, ho, hT _ _ hr⟩
              · rename_i hc
                rw [if_neg hc]
                obtain ⟨z, hz, ho, hr⟩ := q3 j c hj
                exact ⟨z, hz, ho, hT _ _ hr⟩
          · rw [hk] at hx; simp at hx
        · simp at hs
      · rename_i e xs hk
        split at hs
        · rename_i x y hx hy
          split at hs
          · rename_i hle
            rcases hp with ⟨cs', hx', _⟩ | ⟨e', xs', s, hx', hsz, rfl⟩
            · rw [hk] at hx'; simp at hx'
            · rw [hk] at hx'
              obtain ⟨rfl, rfl⟩ : e = e' ∧ xs = xs' := by simpa using hx'
              unfold rowO at hs
              split at hs
              · rename_i x' hx2
                obtain rfl := Option.some.inj hs
                obtain ⟨hn, hlt, arr, s', f, q1, q2, q3, q4, q5, q6, q7, q8⟩ := h.obj k _ hk _ hm
                obtain rfl : s' = s := by rw [hsz] at q2; simpa using q2.symm
                dsimp only at q1 q4 q5 q6 hn hlt
                have hrv := h.pv (fun b hb => hb) hy hv (by rw [hrows k i off e xs rfl hk]; intro k hk; simp at hk)
                obtain ⟨d1, d2⟩ := pv_cells hrv
                have hxl := q7 x (List.mem_of_getElem? hx)
                have hilt := (List.getElem?_eq_some_iff.1 hx).1
                have his : (i + 1) * s' ≤ cap * s' := Nat.mul_le_mul_right _ (by omega)
                rw [Nat.add_mul, Nat.one_mul] at his
                have hcell1 : ∀ w, w ∈ putPV x.cells off y.cells → w.cells = [w] := fun w hw => by
                  obtain ⟨j, hj⟩ := List.mem_iff_getElem?.1 hw
                  rw [getElem?_putPV] at hj
                  split at hj
                  · obtain ⟨z, _, hr⟩ := d2 _ w hj
                    exact hr.cells1
                  · exact (q8 i x j w hx hj).2.cells1
                have hx'c := mkPV_cells hx2 hcell1
                have hx'l : x'.cells.length = s' := by rw [hx'c, length_putPV, hxl]
                refine ⟨_, storeAt_run q1 (by rw [c2, g1]) (by rw [d1, q4]; omega) (fun j z hz => ?_), h.write (cap := cap) hk hm ⟨rfl, by simp⟩ (setRow_size _ _ _) (setRow_below _ _ _ _ hn) (fun b' hb' => setRow_other _ _ _ _ hb') fun hS hT =>
                  RepO.mkRow (setRow_heap _ _ _ _ _ _ q1) hsz q3 (by rw [size_puts, q4]) q5 (by simpa using q6) (fun w hw => ?_) (fun i' w q y' hi' hq => ?_)⟩
                · have hj : j < v.cells.length := by
                    have := (Array.getElem?_eq_some_iff.1 hz).1
                    omega
                  obtain ⟨z', hz', _, ho⟩ := g2 j _ (List.getElem?_eq_getElem hj)
                  rw [hz] at hz'
                  obtain rfl := Option.some.inj hz'
                  exact ho
                · rcases List.mem_or_eq_of_mem_set hw with hw | rfl
                  · exact q7 w hw
                  · exact hx'l
                · rw [getElem?_puts, Array.length_toList, d1, q4]
                  rw [List.getElem?_set] at hi'
                  by_cases hii : i = i'
                  · subst hii
                    rw [if_pos rfl, if_pos hilt] at hi'
                    obtain rfl := Option.some.inj hi'
                    rw [hx'c, getElem?_putPV, hxl] at hq
                    split at hq
                    · rename_i hc
                      obtain ⟨z, hz, hr⟩ := d2 _ y' hq
                      refine ⟨z, ?_, hr.step hS.keep⟩
                      rw [if_pos (by omega), show i * s' + q - (i * s' + off) = q - off by omega]
                      simpa using hz
                    · rename_i hc
                      have hqs : q < s' := by
                        have := (List.getElem?_eq_some_iff.1 hq).1
                        omega
                      obtain ⟨hz, hr⟩ := q8 i x q y' hx hq
                      exact ⟨_, by rw [if_neg (by omega)]; exact hz, hr.step hS.keep⟩
                  · rw [if_neg hii] at hi'
                    have hwl := q7 w (List.mem_of_getElem? hi')
                    have hqs : q < s' := by
                      have := (List.getElem?_eq_some_iff.1 hq).1
                      omega
                    obtain ⟨hz, hr⟩ := q8 i' w q y' hi' hq
                    refine ⟨_, ?_, hr.step hS.keep⟩
                    rw [if_neg]
                    · exact hz
                    · rintro ⟨e1, e2, e3⟩
                      rcases Nat.lt_or_ge i' i with hlt' | hge'
                      · have : (i' + 1) * s' ≤ i * s' := Nat.mul_le_mul_right _ (by omega)
                        rw [Nat.add_mul, Nat.one_mul] at this
                        omega
                      · have : (i + 1) * s' ≤ i' * s' := Nat.mul_le_mul_right _ (by omega)
                        rw [Nat.add_mul, Nat.one_mul] at this
                        omega
              · simp at hs
          · simp at hs
        · simp at hs
      · simp at hs
    · simp at hs
  · simp at hs
theorem nameCells_rel (kb : Nat) : ∀ (vs : List TV) (c : Nat) {st : St} {μ : Mu}, Rel P S0 n0 w0 noH st a W A μ → ∃ μ', Rel P S0 n0 w0 noH (nameCells kb c vs st) a W A μ' := by
  intro vs
  induction vs with
  | nil => intro c st μ h; exact ⟨μ, h⟩
  | cons v vs ih =>
    intro c st μ h
    cases v with
    | row k off len =>
      obtain ⟨μ', h', _⟩ := h.name k (100000 + 64 * kb + c)
      exact ih (c + 1) h'
    | undef => exact ih (c + 1) h
    | skip => exact ih (c + 1) h
    | val _ => exact ih (c + 1) h
    | nil => exact ih (c + 1) h
    | sl _ => exact ih (c + 1) h
    | fn _ _ => exact ih (c + 1) h
    | ptr _ _ _ => exact ih (c + 1) h
    | rd _ => exact ih (c + 1) h
    | agg _ => exact ih (c + 1) h
    | tup _ => exact ih (c + 1) h
theorem sealAll_ptr (ks : List Nat) : ∀ {st : St} {k i off : Nat} {u : Value}, Rep1 P S μ st.so W (.ptr k i off) u → ((sealAll ks st).so.get k).isSome = true → Rep1 P S' μ (sealAll ks st).so W' (.ptr k i off) u := by
  induction ks with
  | nil => intro st k i off u h _; exact h
  | cons k0 ks ih =>
    intro st k i off u h hs
    refine ih (st := st.close k0) ?_ hs
    have h1 := sealAll_sub ks (st.close k0) k hs
    obtain ⟨b, cap, hm, hp⟩ := h
    refine ⟨b, cap, hm, ?_⟩
    have hg := seal_get st k0 k
    rcases hp with ⟨cs, g1, g2⟩ | ⟨e, xs, s, g1, g2⟩
    · refine .inl ?_
      rw [g1] at hg
      split at hg
      · split at hg
        · rw [hg] at h1; simp at h1
        · exact ⟨_, hg, g2⟩
      · exact ⟨_, hg, g2⟩
    · refine .inr ?_
      rw [g1] at hg
      split at hg
      · split at hg
        · rw [hg] at h1; simp at h1
        · exact ⟨e, xs, s, hg, g2⟩
      · exact ⟨e, xs, s, hg, g2⟩
theorem withO_some {st st1 : St} {o : Option Store} (h : withO st o = some st1) : ∃ so, o = some so ∧ st1 = st.withSo so := by
  cases o with
  | none => simp [withO] at h
  | some so => exact ⟨so, rfl, (Option.some.inj h).symm⟩
theorem storeSo_ptr {t : TypeId} {p v : TV} {so1 : Store} (h : storeSo P so t p v = some so1) : ∃ k i off, p = .ptr k i off ∧ (so.get k).isSome = true := by
  unfold storeSo at h
  split at h
  · rename_i k i off
    split at h
    · split at h
      · rename_i hk; exact ⟨k, i, off, rfl, by rw [hk]; rfl⟩
      · rename_i hk; exact ⟨k, i, off, rfl, by rw [hk]; rfl⟩
      · simp at h
    · simp at h
  · simp at h
theorem store_run (h : Rel P S0 n0 w0 noH st a W A μ) {t : TypeId} {x y : Operand} (hs : evStore P st t (rdv st.tm x) (rdv st.tm y) = some st1) :
    ∃ W' μ', (Instr.storeAt t (a.eval x) (a.eval y)).run P W = .ok () W' ∧ Rel P S0 n0 w0 noH st1 a W' A μ' := by
  unfold evStore at hs
  split at hs
  · rename_i p v hp hv
    have rp := h.eval hp
    have rv := h.eval hv
    split at hs
    · rename_i hr
      obtain ⟨so1, h1, rfl⟩ := withO_some hs
      obtain ⟨W', g1, g2⟩ := storeSo_run h rp rv (fun _ _ _ _ _ _ _ => hr) h1
      exact ⟨W', μ, g1, g2⟩
    · rename_i k ks hr
      split at hs
      · rename_i kb off hb
        unfold nameO at hs
        split at hs
        · rename_i st2 h2
          obtain rfl := Option.some.inj hs
          obtain ⟨so1, h1, rfl⟩ := withO_some h2
          obtain ⟨W', g1, g2⟩ := storeSo_run h rp rv (fun k' i off' e xs he hk => by
            subst he
            simp only [isBoxAt, hk] at hb
            simp at hb) h1
          obtain ⟨μ', g3⟩ := nameCells_rel kb v.cells off g2
          exact ⟨W', μ', g1, g3⟩
        · simp at hs
      · rename_i hb
        unfold storePV at hs
        split at hs
        · rename_i q hq
          obtain ⟨so1, h1, rfl⟩ := withO_some hs
          have hsl := h.sealAll (k :: ks)
          obtain ⟨k', i, off, rfl, hsome⟩ := storeSo_ptr h1
          have rp' : Rep3 P (free S0 n0 noH μ (sealAll (k :: ks) st).so W) μ (sealAll (k :: ks) st).so W (.ptr k' i off) (a.eval x) := sealAll_ptr (S := free S0 n0 noH μ st.so W) (W := W) (S' := free S0 n0 noH μ (sealAll (k :: ks) st).so W) (W' := W) (k :: ks) rp hsome
          have rq := h.pv (S' := free S0 n0 noH μ (sealAll (k :: ks) st).so W) (fun b hb => free_sub (fun j hj => sealAll_sub _ st j hj) (Nat.le_refl _) (fun b hb => .inl hb) hb) hq rv (fun k1 hk1 e xs hx c hc => sealAll_free _ h k1 (by rw [← hr]; exact hk1) e xs hx c hc)
          obtain ⟨W', g1, g2⟩ := storeSo_run hsl rp' (rq.tv.one) (fun _ _ _ _ _ _ _ => by
            cases q with
            | val _ => rfl
            | sl _ => rfl
            | fn _ _ => rfl
            | agg cs =>
              simp only [PV.tv, rowsIn]
              apply List.flatMap_eq_nil_iff.2
              intro w hw
              obtain ⟨w0, _, rfl⟩ := List.mem_map.1 hw
              cases w0 <;> rfl) h1
          exact ⟨W', μ, g1, g2⟩
        · simp at hs
  · simp at hs
theorem store_op (h : Rel P S0 n0 w0 noH st a W A μ) {o : Oper} {t : TypeId} {x y : Operand} (ho : o.op = .store t x y) (hs : putU o.dst (evStore P st t (rdv st.tm x) (rdv st.tm y)) = some st1)
    {K : Act → World → Prop} {Q : Exit → Act → World → Prop} (hK : ∀ a' W' μ', Rel P S0 n0 w0 noH st1 a' W' A μ' → K a' W') : o.wp P a W K Q := by
  unfold putU at hs
  split at hs
  · rename_i st2 h2
    obtain rfl := Option.some.inj hs
    obtain ⟨W', μ', g1, g2⟩ := store_run h h2
    refine wp_skipped (W' := W') ?_ (hK _ _ _ (g2.put o.dst (v := .undef) (u := Go.undef) trivial))
    simp [execOp, ho, g1]
  · simp at hs
end
end Go.Proofs.YtlhjljplfmmoaaaGreatDoor.Ev
/- Soundness of the evaluator, part 15: append and copy. -/
namespace Go.Proofs.YtlhjljplfmmoaaaGreatDoor.Ev
open Go Go.RowKit
section
variable {P : Program} {S0 H H' : Nat → Prop} {n0 : Nat} {w0 : World} {st st1 : St} {a : Act} {W W' : World} {A : List (Array Value)} {μ μ' : Mu} {S S' : Nat → Prop} {so so' : Store}
/-- The elements xs lie flat in the cells fs. -/
def Flat (S : Nat → Prop) (W : World) (s : Nat) (xs : List PV) (fs : List Value) : Prop :=
  fs.length = xs.length * s ∧ (∀ x, x ∈ xs → x.cells.length = s) ∧ ∀ (i : Nat) (x : PV) (q : Nat) (y : PV), xs[i]? = some x → x.cells[q]? = some y → ∃ u, fs[i * s + q]? = some u ∧ Rep S W y u
theorem Flat.one {s : Nat} {xs : List PV} {fs : List Value} (h : Flat S W s xs fs) (hs : 0 < s) : ∀ u, u ∈ fs → u.oneCell' = true := by
  intro u hu
  obtain ⟨j, hj⟩ := List.mem_iff_getElem?.1 hu
  have hlt := (List.getElem?_eq_some_iff.1 hj).1
  rw [h.1] at hlt
  have hdm : j / s * s + j % s = j := Nat.div_add_mod' j s
  have hq : j % s < s := Nat.mod_lt _ hs
  have hi : j / s < xs.length := Nat.div_lt_of_lt_mul (by rw [Nat.mul_comm]; exact hlt)
  have hx := List.getElem?_eq_getElem hi
  have hxl := h.2.1 _ (List.getElem_mem hi)
  have hy := List.getElem?_eq_getElem (show j % s < (xs[j / s]).cells.length by omega)
  obtain ⟨w, hw, hr⟩ := h.2.2 _ _ _ _ hx hy
  rw [hdm, hj] at hw
  obtain rfl := Option.some.inj hw
  exact hr.oneCell
theorem Flat.step {s : Nat} {xs : List PV} {fs : List Value} (h : Flat S W s xs fs) (hS : Same S S' W W') : Flat S' W' s xs fs :=
  ⟨h.1, h.2.1, fun i x q y hi hq => let ⟨u, hu, hr⟩ := h.2.2 i x q y hi hq; ⟨u, hu, hr.step hS.keep⟩⟩
theorem Flat.append {s : Nat} {xs ys : List PV} {fs gs : List Value} (h : Flat S W s xs fs) (k : Flat S W s ys gs) : Flat S W s (xs ++ ys) (fs ++ gs) := by
  refine ⟨by simp [h.1, k.1, Nat.add_mul], fun x hx => (List.mem_append.1 hx).elim (h.2.1 x) (k.2.1 x), fun i x q y hi hq => ?_⟩
  rw [List.getElem?_append] at hi
  split at hi
  · rename_i hlt
    obtain ⟨u, hu, hr⟩ := h.2.2 i x q y hi hq
    refine ⟨u, ?_, hr⟩
    rw [List.getElem?_append, if_pos (List.getElem?_eq_some_iff.1 hu).1]
    exact hu
  · rename_i hge
    obtain ⟨u, hu, hr⟩ := k.2.2 _ x q y hi hq
    refine ⟨u, ?_, hr⟩
    have : xs.length * s ≤ i * s := Nat.mul_le_mul_right _ (by omega)
    rw [List.getElem?_append, if_neg (by rw [h.1]; omega), h.1]
    rw [show i * s + q - xs.length * s = (i - xs.length) * s + q by rw [Nat.sub_mul]; omega]
    exact hu
theorem Flat.nil (s : Nat) : Flat S W s [] [] := ⟨by simp, fun x hx => by simp at hx, fun i x q y hi => by simp at hi⟩
/-- Out of cells that are there to a flat list. -/
theorem flat_of {s : Nat} (hs : 0 < s) {xs : List PV} {R : Nat → Value → Prop} (hc : ∀ x, x ∈ xs → x.cells.length = s) (h : ∀ (i : Nat) (x : PV) (q : Nat) (y : PV), xs[i]? = some x → x.cells[q]? = some y → ∃ u, R (i * s + q) u ∧ Rep S W y u) :
    ∃ fs, Flat S W s xs fs ∧ ∀ (j : Nat) (u : Value), fs[j]? = some u → R j u := by
  obtain ⟨fs, h1, h2⟩ := choose_list (Q := fun j u => R j u ∧ ∀ (i : Nat) (x : PV) (q : Nat) (y : PV), xs[i]? = some x → x.cells[q]? = some y → j = i * s + q → Rep S W y u) (xs.length * s) fun j hj => by
    have hdm : j / s * s + j % s = j := Nat.div_add_mod' j s
    have hq : j % s < s := Nat.mod_lt _ hs
    have hi : j / s < xs.length := Nat.div_lt_of_lt_mul (by rw [Nat.mul_comm]; exact hj)
    obtain ⟨x0, hx⟩ : ∃ x0, xs[j / s]? = some x0 := ⟨_, List.getElem?_eq_getElem hi⟩
    have hxl := hc _ (List.mem_of_getElem? hx)
    obtain ⟨y0, hy⟩ : ∃ y0, x0.cells[j % s]? = some y0 := ⟨_, List.getElem?_eq_getElem (show j % s < x0.cells.length by omega)⟩
    obtain ⟨u, hu, hr⟩ := h _ _ _ _ hx hy
    rw [hdm] at hu
    refine ⟨u, hu, fun i x q y hi' hq' hj' => ?_⟩
    have hql : q < s := by
      have := (List.getElem?_eq_some_iff.1 hq').1
      rw [hc x (List.mem_of_getElem? hi')] at this
      exact this
    have e1 : j / s = i := by rw [hj', Nat.mul_comm, Nat.mul_add_div hs, Nat.div_eq_of_lt hql, Nat.add_zero]
    have e2 : j % s = q := by rw [hj', Nat.mul_comm, Nat.mul_add_mod, Nat.mod_eq_of_lt hql]
    rw [e1, hi'] at hx
    obtain rfl := Option.some.inj hx
    rw [e2, hq'] at hy
    obtain rfl := Option.some.inj hy
    exact hr
  refine ⟨fs, ⟨h1, hc, fun i x q y hi hq => ?_⟩, fun j u hj => (h2 j u hj).1⟩
  have hlt : i * s + q < fs.length := by
    have h3 := (List.getElem?_eq_some_iff.1 hi).1
    have h4 := (List.getElem?_eq_some_iff.1 hq).1
    rw [hc x (List.mem_of_getElem? hi)] at h4
    have : (i + 1) * s ≤ xs.length * s := Nat.mul_le_mul_right _ (by omega)
    rw [Nat.add_mul, Nat.one_mul] at this
    omega
  exact ⟨_, List.getElem?_eq_getElem hlt, (h2 _ _ (List.getElem?_eq_getElem hlt)).2 i x q y hi hq rfl⟩
end
end Go.Proofs.YtlhjljplfmmoaaaGreatDoor.Ev
/- Soundness of the evaluator, part 16: append. -/
namespace Go.Proofs.YtlhjljplfmmoaaaGreatDoor.Ev
open Go Go.RowKit
section
variable {P : Program} {S0 H H' : Nat → Prop} {n0 : Nat} {w0 : World} {st st1 : St} {a : Act} {W W' : World} {A : List (Array Value)} {μ μ' : Mu} {S S' : Nat → Prop} {so so' : Store}
theorem append_core (h : Rel P S0 n0 w0 noH st a W A μ) {key d : Nat} {ko : Option Nat} {e : TypeId} {s n m : Nat} {xs ys : List PV} {fs gs : List Value} {v v' : Value} (hs : sizeT P e = some s) (hs0 : 0 < s) (hn : xs.length = n) (hm : ys.length = m)
    (hfs : Flat (free S0 n0 noH μ st.so W) W s xs fs) (hgs : Flat (free S0 n0 noH μ st.so W) W s ys gs) (hown : W'.ownsRow n0 e s v' (n + m) (fs ++ gs)) (hgrow : W.grownBy W' v.ownBlock) (hat : v'.ownBlock = v.ownBlock ∨ v'.ownBlock = some W.heap.size)
    (hko : ∀ b, v.ownBlock = some b → ∃ k c, ko = some k ∧ (st.so.get k).isSome = true ∧ μ k = some c ∧ c.1 = b) :
    ∃ μ', Rel P S0 n0 w0 noH (((killOpt st ko).new key (.row e (xs ++ ys))).put (some d) (.row key 0 (n + m))) (a.put (some d) v') W' A μ' := by
  have h1 : Rel P S0 n0 w0 (fun b => v.ownBlock = some b) (killOpt st ko) a W A μ := by
    cases hv : v.ownBlock with
    | none =>
      have : Rel P S0 n0 w0 noH (killOpt st ko) a W A μ := by
        cases ko with
        | none => exact h
        | some k => exact h.kill k
      exact this.unhold fun b hb => by simp at hb
    | some b =>
      obtain ⟨k, c, rfl, hk, hc, rfl⟩ := hko b hv
      exact (h.killHold k hk).unhold fun b' hb' => .inr ⟨c, hc, by simpa using hb'⟩
  have h2 := h1.kill key
  have hsub : ∀ j, (((killOpt st ko).kill key).so.get j).isSome = true → (st.so.get j).isSome = true := fun j hj => by
    have := kill_sub _ key j hj
    cases ko with
    | none => exact this
    | some k => exact kill_sub st k j this
  have hnfree : ∀ b, v.ownBlock = some b → ¬ free S0 n0 noH μ st.so W b := fun b hb hf => by
    obtain ⟨k, c, _, hk, hc, he⟩ := hko b hb
    exact hf.2.2.2 k c hk hc he
  have h3 := h2.world (H' := fun b => v'.ownBlock = some b) (W' := W') (h.below.grown hgrow h.old fun k hk => by
      obtain ⟨k', c, _, hk', hc, rfl⟩ := hko k hk
      obtain ⟨o, ho⟩ := Option.isSome_iff_exists.1 hk'
      exact (h.obj k' o ho c hc).1) hgrow.size (fun b hlt hb => hgrow.block b hlt fun e => hb e.symm) (fun b hb => by
      rcases hat with hat | hat
      · exact .inl (hat ▸ hb)
      · rw [hb] at hat
        have := Option.some.inj hat
        exact .inr (by omega))
  have hS : Same (free S0 n0 noH μ st.so W) (free S0 n0 (fun b => v'.ownBlock = some b) μ ((killOpt st ko).kill key).so W') W W' := by
    refine ⟨fun b hb => ⟨?_, fun hlt => hgrow.block b hlt fun e => hnfree b e.symm hb⟩⟩
    obtain ⟨q1, q2, q3, q4⟩ := hb
    refine ⟨q1, fun hb' => ?_, Nat.lt_of_lt_of_le q3 hgrow.size, fun j c hj hc => q4 j c (hsub j hj) hc⟩
    rcases hat with hat | hat
    · exact hnfree b (hat ▸ hb') ⟨q1, q2, q3, q4⟩
    · rw [hb'] at hat
      have := Option.some.inj hat
      omega
  have hfl := (hfs.append hgs).step hS
  have hkn := kill_none (killOpt st ko) key
  rcases hown.2 with ⟨rfl, h0⟩ | ⟨g, cap, cur, rfl, q1, q2, q3, q4, q5, q6⟩
  · have hxy : xs ++ ys = [] := List.eq_nil_of_length_eq_zero (by rw [List.length_append]; omega)
    rw [hxy, h0]
    have h4 := (h3.newNil key hkn e).unhold (H' := noH) (fun b hb => hb.elim)
    exact ⟨_, h4.put (some d) (v := .row key 0 0) ⟨e, [], s, by rw [show ((killOpt st ko).kill key).withSo _ = _ from rfl]; simp only [St.withSo]; rw [get_ins, if_pos rfl], hs, by simp, .inl ⟨by simp, rfl, rfl⟩⟩⟩
  · have hg : g < W'.heap.size := (Array.getElem?_eq_some_iff.1 q2).1
    have hlen : (xs ++ ys).length = n + m := by rw [List.length_append]; omega
    have h4 := (h3.ins key hkn (.row e (xs ++ ys)) g cap (by simp [Value.ownBlock]) hg (RepO.mkRow q2 hs hs0 q5 q4 (by rw [hlen]; exact q3) hfl.2.1 fun i x q y hi hq => by
      obtain ⟨u, hu, hr⟩ := hfl.2.2 i x q y hi hq
      refine ⟨u, ?_, hr⟩
      rw [← q6, List.getElem?_take] at hu
      split at hu
      · simpa using hu
      · simp at hu)).unhold (H' := noH) (fun b hb => hb.elim)
    exact ⟨_, h4.put (some d) (v := .row key 0 (n + m)) ⟨e, xs ++ ys, s, by simp only [St.withSo]; rw [get_ins, if_pos rfl], hs, by omega, .inr ⟨g, cap, _, cap, by simp, rfl, q3, q4, fun _ => ⟨by rw [Nat.zero_mul], rfl⟩⟩⟩⟩
theorem sized_flat {s : Nat} {xs : List PV} (h : sizedAll s xs = true) : ∀ x, x ∈ xs → x.cells.length = s := sizedAll_mem h
/-- What is a slice, laid flat. -/
theorem Rel.flat (h : Rel P S0 n0 w0 noH st a W A μ) {v : TV} {u : Value} {ys : List PV} {s : Nat} (hs : 0 < s) (hv : Ev.elems st.so v = some ys) (hsz : sizedAll s ys = true) (hr : Rep3 P (free S0 n0 noH μ st.so W) μ st.so W v u) :
    ∃ ad c, u = .slice ad ys.length c ∧ (ad = none → ys = []) ∧ ∃ gs, Flat (free S0 n0 noH μ st.so W) W s ys gs ∧ ∀ ad', ad = some ad' → ∀ (j : Nat) (z : Value), gs[j]? = some z → W.cell? (ad'.add j) = some z := by
  have hlist : ∀ {u : Value}, Rep (free S0 n0 noH μ st.so W) W (.sl ys) u → ∃ ad c, u = .slice ad ys.length c ∧ (ad = none → ys = []) ∧ ∃ gs, Flat (free S0 n0 noH μ st.so W) W s ys gs ∧ ∀ ad', ad = some ad' → ∀ (j : Nat) (z : Value), gs[j]? = some z → W.cell? (ad'.add j) = some z := by
    intro u hr
    cases hr with
    | sl _ b c s' f h1 h2 h3 h4 h5 h6 =>
      refine ⟨b, c, rfl, fun hb => ?_, ?_⟩
      · cases ys with
        | nil => rfl
        | cons y ys =>
          obtain ⟨ad, hh⟩ := h3 (by simp)
          rw [hb] at hh
          simp at hh
      · have hss : ∀ x, x ∈ ys → s' = s := fun x hx => by rw [← h4 x hx, sizedAll_mem hsz x hx]
        obtain ⟨gs, g1, g2⟩ := flat_of (S := free S0 n0 noH μ st.so W) (W := W) (R := fun j u => ∀ ad', b = some ad' → W.cell? (ad'.add j) = some u) hs (sizedAll_mem hsz) fun i x q y hi hq => by
          refine ⟨f i q, fun ad' ha => ?_, h6 i x q y hi hq⟩
          have := (h5 ad' ha i x hi).2 q y hq
          rwa [hss x (List.mem_of_getElem? hi)] at this
        exact ⟨gs, g1, fun ad' ha j z hz => g2 j z hz ad' ha⟩
  have hnil : u = .slice none 0 0 → ys = [] → ∃ ad c, u = .slice ad ys.length c ∧ (ad = none → ys = []) ∧ ∃ gs, Flat (free S0 n0 noH μ st.so W) W s ys gs ∧ ∀ ad', ad = some ad' → ∀ (j : Nat) (z : Value), gs[j]? = some z → W.cell? (ad'.add j) = some z := by
    rintro rfl rfl
    exact ⟨none, 0, rfl, fun _ => rfl, [], Flat.nil s, fun ad' ha => by simp at ha⟩
  unfold Ev.elems at hv
  cases v with
  | nil =>
    simp [toPV1] at hv
    exact hnil hr hv
  | sl xs =>
    obtain rfl : xs = ys := by simpa [toPV1] using hv
    exact hlist hr
  | row k off len =>
    obtain ⟨e, xs, s', h1, h2, h3, h4⟩ := hr
    simp only [toPV1, h1, h3, if_true, Option.some.injEq] at hv
    rcases h4 with ⟨h5, rfl, rfl⟩ | ⟨b, cap, ad, c, h5, rfl, h6, h7, h8⟩
    · exact hnil rfl (by rw [← hv]; simp)
    · obtain ⟨hn, hlt, arr, s2, f, g1, g2, g3, g4, g5, g6, g7, g8⟩ := h.obj k _ h1 _ h5
      obtain rfl : s2 = s' := by rw [h2] at g2; simpa using g2.symm
      have hll : ys.length = len := by rw [← hv, List.length_take, List.length_drop]; omega
      have hix : ∀ (i : Nat) (x : PV), ys[i]? = some x → xs[off + i]? = some x := fun i x hx => by
        rw [← hv, List.getElem?_take] at hx
        split at hx
        · rwa [List.getElem?_drop] at hx
        · simp at hx
      have hss : ∀ x, x ∈ ys → s2 = s := fun x hx => by
        obtain ⟨i, hi⟩ := List.mem_iff_getElem?.1 hx
        rw [← g7 x (List.mem_of_getElem? (hix i x hi)), sizedAll_mem hsz x hx]
      refine ⟨ad, c, by rw [hll], fun ha => ?_, ?_⟩
      · rcases Nat.eq_zero_or_pos len with h0 | h0
        · exact List.eq_nil_of_length_eq_zero (by rw [hll]; exact h0)
        · have := (h8 (.inr h0)).1
          rw [ha] at this
          simp at this
      · obtain ⟨gs, q1, q2⟩ := flat_of (S := free S0 n0 noH μ st.so W) (W := W) (R := fun j u => ∀ ad', ad = some ad' → W.cell? (ad'.add j) = some u) hs (sizedAll_mem hsz) fun i x q y hi hq => by
          obtain ⟨z1, z2⟩ := g8 _ x q y (hix i x hi) hq
          refine ⟨_, fun ad' ha => ?_, z2⟩
          have hl0 : 0 < len := by
            have := (List.getElem?_eq_some_iff.1 hi).1
            omega
          have h9 := (h8 (.inr hl0)).1
          rw [ha] at h9
          obtain rfl : ad' = ⟨b, off * s2, none⟩ := by simpa using h9
          rw [add_off, cell_of_row W b _ arr _ _ g1, ← hss x (List.mem_of_getElem? hi), ← Nat.add_assoc, ← Nat.add_mul]
          exact z1
        exact ⟨gs, q1, fun ad' ha j z hz => q2 j z hz ad' ha⟩
  | val w => simp [toPV1] at hv
  | fn _ _ => simp [toPV1] at hv
  | undef => simp [toPV1] at hv
  | skip => simp [toPV1] at hv
  | ptr _ _ _ => simp [toPV1] at hv
  | rd _ => simp [toPV1] at hv
  | agg _ => simp [toPV1] at hv
  | tup _ => simp [toPV1] at hv
/-- The base of an append. -/
theorem base_own (h : Rel P S0 n0 w0 noH st a W A μ) {v : TV} {u : Value} {e : TypeId} {s : Nat} {xs : List PV} {ko : Option Nat} (hs : sizeT P e = some s) (hb : baseOf st.so e v = some (xs, ko)) (hr : Rep3 P (free S0 n0 noH μ st.so W) μ st.so W v u) :
    ∃ fs, W.ownsRow n0 e s u xs.length fs ∧ Flat (free S0 n0 noH μ st.so W) W s xs fs ∧ ∀ b, u.ownBlock = some b → ∃ k c, ko = some k ∧ (st.so.get k).isSome = true ∧ μ k = some c ∧ c.1 = b := by
  unfold baseOf at hb
  split at hb
  · simp only [Option.some.injEq, Prod.mk.injEq] at hb
    obtain ⟨rfl, rfl⟩ := hb
    obtain rfl : u = .slice none 0 0 := hr
    exact ⟨[], World.ownsRow_nil W n0 e s, Flat.nil s, fun b hb => by simp [Value.ownBlock] at hb⟩
  · rename_i k off len
    split at hb
    · rename_i e' xs' hk
      split at hb
      · rename_i hc
        obtain ⟨rfl, rfl, rfl⟩ := hc
        simp only [Option.some.injEq, Prod.mk.injEq] at hb
        obtain ⟨rfl, rfl⟩ := hb
        obtain ⟨e2, xs2, s2, h1, h2, h3, h4⟩ := hr
        rw [hk] at h1
        obtain ⟨rfl, rfl⟩ : e' = e2 ∧ xs' = xs2 := by simpa using h1
        obtain rfl : s2 = s := by rw [hs] at h2; simpa using h2.symm
        rcases h4 with ⟨h5, rfl, rfl⟩ | ⟨b, cap, ad, c, h5, rfl, h6, h7, h8⟩
        · exact ⟨[], World.ownsRow_nil W n0 e' s2, Flat.nil s2, fun b hb => by simp [Value.ownBlock] at hb⟩
        · obtain ⟨rfl, h9⟩ := h8 (.inl rfl)
          obtain ⟨hn, hlt, arr, s3, f, g1, g2, g3, g4, g5, g6, g7, g8⟩ := h.obj k _ hk _ h5
          obtain rfl : s3 = s2 := by rw [hs] at g2; simpa using g2.symm
          dsimp only at g1 g4 g5 g6 hn hlt
          have hal : arr.toList.length = cap * s3 := by rw [Array.length_toList (xs := arr), g4]
          have hcs : xs'.length * s3 ≤ cap * s3 := Nat.mul_le_mul_right _ g6
          refine ⟨arr.toList.take (xs'.length * s3), ⟨by rw [List.length_take, hal]; omega, .inr ⟨b, c, arr, by rw [Nat.zero_mul], hn, g1, h6, h7, by rw [g4, ← h9, Nat.add_zero], rfl⟩⟩, ⟨by rw [List.length_take, hal]; omega, g7, fun i x q y hi hq => ?_⟩, fun b' hb' => ⟨k, (b, cap), rfl, by rw [hk]; rfl, h5, by simpa [Value.ownBlock] using hb'⟩⟩
          obtain ⟨z1, z2⟩ := g8 i x q y hi hq
          refine ⟨_, ?_, z2⟩
          have hq' := (List.getElem?_eq_some_iff.1 hq).1
          rw [g7 x (List.mem_of_getElem? hi)] at hq'
          have hi' := (List.getElem?_eq_some_iff.1 hi).1
          have : (i + 1) * s3 ≤ xs'.length * s3 := Nat.mul_le_mul_right _ (by omega)
          rw [Nat.add_mul, Nat.one_mul] at this
          rw [List.getElem?_take, if_pos (by omega)]
          simpa using z1
      · simp at hb
    · simp at hb
  · simp at hb
end
end Go.Proofs.YtlhjljplfmmoaaaGreatDoor.Ev
/- Soundness of the evaluator, part 17: the builtins as operations. -/
namespace Go.Proofs.YtlhjljplfmmoaaaGreatDoor.Ev
open Go Go.RowKit Go.Lib
section
variable {P : Program} {S0 H H' : Nat → Prop} {n0 : Nat} {w0 : World} {st st1 : St} {a : Act} {W W' : World} {A : List (Array Value)} {μ μ' : Mu} {S S' : Nat → Prop} {so so' : Store}
theorem strCells_flat (s : ByteArray) : Flat S W 1 (u8s s) (strCells s) := by
  have hl : (u8s s).length = s.size := by simp [u8s]
  refine ⟨by rw [strCells_length, hl, Nat.mul_one], fun x hx => ?_, fun i x q y hi hq => ?_⟩
  · simp only [u8s, List.mem_map] at hx
    obtain ⟨b, _, rfl⟩ := hx
    rfl
  · simp only [u8s, List.getElem?_map, Option.map_eq_some_iff] at hi
    obtain ⟨b, hb, rfl⟩ := hi
    have hq0 : q = 0 := by
      have := (List.getElem?_eq_some_iff.1 hq).1
      simp [PV.cells] at this
      omega
    subst hq0
    obtain rfl : PV.val (.int .u8 b.toNat) = y := by simpa [PV.cells] using hq
    exact ⟨.int .u8 b.toNat, by simp only [strCells, List.getElem?_map, Nat.mul_one, Nat.add_zero, hb, Option.map_some], .val _ rfl⟩
theorem run_append_nothing (base : Nat) (t ty e : TypeId) (i : TypeInfo) (size : Nat) (ht : P.underlying t = some (.slice e)) (hi : P.info? e = some i) (v : Value) (n c : Nat) (xs : List Value) (hown : W.ownsRow base e size v n xs) :
    (Builtin.append_ #[t, t] ty #[v, .slice none 0 c]).run P W = .ok v W := by
  rcases hown.2 with ⟨rfl, rfl⟩ | ⟨g, cap, cur, rfl, _, _, hnc, _⟩
  · simp [Builtin.append_, run_underlying ht, sizeOf, typeInfo, hi, Builtin.lenOf, Builtin.firstCells]
  · simp [Builtin.append_, run_underlying ht, sizeOf, typeInfo, hi, Builtin.lenOf, Builtin.firstCells, hnc, storeCells]
theorem append_string_at (base : Nat) (t u ty e : TypeId) (i : TypeInfo) (ht : P.underlying t = some (.slice e)) (hu : P.underlying u = some .string) (hi : P.info? e = some i) (hz : i.zero = some (.int .u8 0)) (hsize : i.size = 1) (hby : i.bytes = 1)
    (v : Value) (n : Nat) (xs : List Value) (hown : W.ownsRow base e 1 v n xs) (s : ByteArray) (h63 : n + s.size ≤ maxLen) (hbytes : n + s.size ≤ 140737488355328) (hbase : base ≤ W.heap.size) :
    ∃ v' w', (Builtin.append_ #[t, u] ty #[v, .string s]).run P W = .ok v' w' ∧ w'.ownsRow base e 1 v' (n + s.size) (xs ++ strCells s) ∧ W.grownBy w' v.ownBlock ∧ (v'.ownBlock = v.ownBlock ∨ v'.ownBlock = some W.heap.size) := by
  obtain ⟨v', w', h1, h2, h3, h4⟩ := run_append_own_string (P := P) W base t u ty e i ht hu hi hz hsize hby v n xs hown s h63 hbytes hbase
  refine ⟨v', w', h1, h2, h3, ?_⟩
  have hsm : n + s.size ≤ 9223372036854775807 := by simp only [maxLen] at h63; omega
  have hxl : xs.length = n := by simpa using hown.1
  rcases hown.2 with ⟨rfl, rfl⟩ | ⟨g, cap, cur, rfl, hbg, hg, hnc, hcm, hcs, htake⟩
  · by_cases h0 : s.size = 0
    · exact .inl (by rw [h4.2 ⟨rfl, h0⟩])
    · have hr := run_append_nil_string (P := P) W t u ty e i (.int .u8 0) ht hu hi hz s (by omega) (by omega) (by rw [hby]; omega)
      rw [h1] at hr
      obtain ⟨rfl, _⟩ := Result.ok.inj hr
      exact .inr rfl
  · have hcs' : cur.size = cap := by simpa using hcs
    by_cases hroom : n + s.size ≤ cap
    · have hr := run_append_room_string (P := P) W t u ty e i ht hu hi hsize g n cap cur hg s hroom (by omega)
      rw [h1] at hr
      obtain ⟨rfl, _⟩ := Result.ok.inj hr
      exact .inl rfl
    · have holds : ∀ j u, xs[j]? = some u → W.cell? ((⟨g, 0, none⟩ : Addr).add j) = some u := hown.cells (g := g) rfl
      have hr := run_append_grow_string (P := P) W t u ty e i (.int .u8 0) ht hu hi hz ⟨g, 0, none⟩ n cap xs (by rw [hsize]; simpa using hxl) holds s (by omega) (by omega) (by rw [hby]; exact growslice_fits (by omega) (by omega))
      rw [h1] at hr
      obtain ⟨rfl, _⟩ := Result.ok.inj hr
      exact .inr rfl
theorem byteOk_some {e : TypeId} (h : byteOk P e = true) : P.underlying e = some (.int .u8) ∧ ∃ i, P.info? e = some i ∧ i.size = 1 ∧ i.bytes = 1 ∧ i.zero = some (.int .u8 0) := by
  unfold byteOk at h
  simp only [Bool.and_eq_true] at h
  obtain ⟨h1, h2⟩ := h
  refine ⟨isU8_some h1, ?_⟩
  split at h2
  · rename_i i hi
    simp only [Bool.and_eq_true, beq_iff_eq] at h2
    obtain ⟨⟨h3, h4⟩, h5⟩ := h2
    refine ⟨i, hi, h3, h4, ?_⟩
    split at h5
    · assumption
    · simp at h5
  · simp at h2
theorem isStr_some {t : TypeId} (h : isStr P t = true) : P.underlying t = some .string := by
  unfold isStr at h
  split at h
  · assumption
  · simp at h
theorem append_run (h : Rel P S0 n0 w0 noH st a W A μ) {key d : Nat} {t u ty : TypeId} {s x : TV} {sv xv : Value} (hsr : Rep3 P (free S0 n0 noH μ st.so W) μ st.so W s sv) (hxr : Rep3 P (free S0 n0 noH μ st.so W) μ st.so W x xv) (hs : evAppend P st key d t u (some s) (some x) = some st1) :
    ∃ z W' μ', (Builtin.append_ #[t, u] ty #[sv, xv]).run P W = .ok z W' ∧ Rel P S0 n0 w0 noH st1 (a.put (some d) z) W' A μ' := by
  simp only [evAppend] at hs
  · split at hs
    · rename_i e he
      split at hs
      · rename_i b n z hb hn hz
        split at hs
        · rename_i xs ko ys hbase hmore
          split at hs
          · rename_i hc
            obtain ⟨c1, c2, c3, c4⟩ := hc
            obtain rfl := Option.some.inj hs
            obtain ⟨hn1, hn2⟩ := rowSize_some hn
            obtain ⟨uz, i, hi, hiz, hrz⟩ := zeroPV_rep h hz
            have hzs : uz.cells.size = n := by rw [(pv_cells hrz).1, c1]
            have his : i.size = n := by unfold sizeT at hn1; simpa [hi] using hn1
            have hib : i.bytes = b := by unfold bytesT at hb; simpa [hi] using hb
            obtain ⟨fs, hown, hfs, hko⟩ := base_own h hn1 hbase hsr
            have hmx : xs.length + ys.length ≤ maxLen := by simp only [maxLen]; omega
            have fin : ∀ (gs : List Value) (v' : Value) (w' : World), Flat (free S0 n0 noH μ st.so W) W n ys gs → w'.ownsRow n0 e n v' (xs.length + ys.length) (fs ++ gs) → W.grownBy w' sv.ownBlock → (v'.ownBlock = sv.ownBlock ∨ v'.ownBlock = some W.heap.size) →
                ∃ μ', Rel P S0 n0 w0 noH (((killOpt st ko).new key (.row e (xs ++ ys))).put (some d) (.row key 0 (xs.length + ys.length))) (a.put (some d) v') w' A μ' :=
              fun gs v' w' g1 g2 g3 g4 => append_core h hn1 hn2 rfl rfl hfs g1 g2 g3 g4 hko
            unfold moreOf at hmore
            split at hmore
            · rename_i str
              split at hmore
              · rename_i hby
                obtain rfl := Option.some.inj hmore
                obtain ⟨_, i', hi', k1, k2, k3⟩ := byteOk_some hby.1
                rw [hi] at hi'
                obtain rfl := Option.some.inj hi'
                obtain rfl : n = 1 := by omega
                obtain rfl : b = 1 := by omega
                have hl : (u8s str).length = str.size := by simp [u8s]
                rw [hl] at c3 c4 hmx
                obtain ⟨rfl, _⟩ := hxr
                obtain ⟨v', w', g1, g2, g3, g4⟩ := append_string_at (P := P) (W := W) n0 t u ty e i (elemT_eq he) (isStr_some hby.2) hi k3 k1 k2 sv xs.length fs hown str hmx (by omega) h.old
                obtain ⟨μ', hR⟩ := fin (strCells str) v' w' (strCells_flat str) (by rw [hl]; exact g2) g3 g4
                exact ⟨v', w', μ', g1, hR⟩
              · simp at hmore
            · split at hmore
              · rename_i hut
                subst hut
                obtain ⟨ad, c, rfl, k1, gs, k2, k3⟩ := h.flat hn2 hmore c2 hxr
                cases ad with
                | none =>
                  obtain rfl := k1 rfl
                  have hgs : gs = [] := List.eq_nil_of_length_eq_zero (by rw [k2.1]; simp)
                  subst hgs
                  obtain ⟨μ', hR⟩ := fin [] sv W k2 (by simpa using hown) ⟨rfl, rfl, rfl, Nat.le_refl _, fun _ _ _ => rfl⟩ (.inl rfl)
                  exact ⟨sv, W, μ', run_append_nothing n0 u ty e i n (elemT_eq he) hi sv xs.length c fs hown, hR⟩
                | some ad =>
                  obtain ⟨v', w', g1, g2, g3, _, g4⟩ := run_append_own_at (P := P) W n0 u ty e i uz n b (elemT_eq he) hi hiz his hib hzs hn2 sv xs.length fs hown ad ys.length c gs k2.1 (k3 ad rfl) (k2.one hn2) hmx c4 h.old
                  obtain ⟨μ', hR⟩ := fin gs v' w' k2 g2 g3 g4
                  exact ⟨v', w', μ', g1, hR⟩
              · simp at hmore
          · simp at hs
        · simp at hs
      · simp at hs
    · simp at hs
theorem rdArgs_two {ρ : Operand → Option TV} {l : List Operand} {s x : Option TV} (h : rdArgs ρ l = [s, x]) : ∃ p q, l = [p, q] ∧ ρ p = s ∧ ρ q = x := by
  cases l with
  | nil => cases h
  | cons p l =>
    cases l with
    | nil => cases h
    | cons q l =>
      cases l with
      | nil =>
        cases h
        exact ⟨p, q, rfl, rfl, rfl⟩
      | cons _ _ => cases h
theorem call_builtin {o : Oper} {c : Call} {b : Builtin} (ho : o.op = .call c) (hc : c.callee = .builtin b) (ρ : Operand → Value) :
    ∃ consts, execOp ρ o = builtin b c.argTypes o.type consts (c.args.map ρ) := by
  refine ⟨c.args.map fun | .const _ => true | _ => false, ?_⟩
  simp only [execOp, ho, resolve, hc, pure_bind, invoke]
  rfl
end
end Go.Proofs.YtlhjljplfmmoaaaGreatDoor.Ev
/- Soundness of the evaluator, part 18: copy; all builtins. -/
namespace Go.Proofs.YtlhjljplfmmoaaaGreatDoor.Ev
open Go Go.RowKit Go.Lib
section
variable {P : Program} {S0 H H' : Nat → Prop} {n0 : Nat} {w0 : World} {st st1 : St} {a : Act} {W W' : World} {A : List (Array Value)} {μ μ' : Mu} {S S' : Nat → Prop} {so so' : Store}
theorem Rel.soCongr (h : Rel P S0 n0 w0 H st a W A μ) (hso : ∀ j, so'.get j = st.so.get j) : Rel P S0 n0 w0 H (st.withSo so') a W A μ := by
  have hfr : ∀ b, free S0 n0 H μ st.so W b → free S0 n0 H μ so' W b := fun b hb => free_sub (fun j hj => by rw [hso] at hj; exact hj) (Nat.le_refl _) (fun b hb => .inl hb) hb
  have hS := same_sub (W := W) hfr
  have hK : ∀ j, (st.so.get j).isSome = true → Keep μ μ st.so so' j := fun j _ => ⟨rfl, fun e xs hx => ⟨xs, by rw [hso, hx], rfl⟩, fun cs hx => ⟨cs, by rw [hso, hx]⟩⟩
  have hT : Turns P (free S0 n0 H μ st.so W) (free S0 n0 H μ so' W) μ μ st.so so' W W id := fun v u hr => hr.keep' hS hK
  have hs3 : ∀ v u, Rep3 P (free S0 n0 H μ st.so W) μ st.so W v u → Rep3 P (free S0 n0 H μ so' W) μ so' W v u := fun v u hr => by
    have := hT.three hr
    rwa [map3_id] at this
  refine ⟨h.below, h.old, h.s0, fun b hb => ⟨(h.held b hb).1, fun j c hj hc => (h.held b hb).2 j c (by simp only [St.withSo] at hj; rw [hso] at hj; exact hj) hc⟩, h.defers, h.size, fun i v hv => ?_, ⟨h.sus.1, fun q l t hl ht => ⟨(h.sus.2 q l t hl ht).1, fun i v hv => ?_⟩⟩, fun j o hj c hc => ?_, fun j j' c c' hj hj' => ?_⟩
  · obtain ⟨u, hu, hr⟩ := h.slots i v hv
    exact ⟨u, hu, hs3 _ _ hr⟩
  · obtain ⟨u, hu, hr⟩ := (h.sus.2 q l t hl ht).2 i v hv
    exact ⟨u, hu, hs3 _ _ hr⟩
  · simp only [St.withSo] at hj
    rw [hso] at hj
    obtain ⟨h1, h2, h3⟩ := h.obj j o hj c hc
    have := RepO.turn h3 hT hS rfl
    exact ⟨h1, h2, by cases o <;> simpa [SO.map, St.withSo] using this⟩
  · simp only [St.withSo] at hj hj'
    rw [hso] at hj hj'
    exact h.inj j j' c c' hj hj'
/-- What is copied, as cells. -/
theorem more_cells (h : Rel P S0 n0 w0 noH st a W A μ) {t u e : TypeId} {x : TV} {xv : Value} {ys : List PV} {s : Nat} (hs : sizeT P e = some s) (hs0 : 0 < s) (hm : moreOf P st.so t u e x = some ys) (hsz : sizedAll s ys = true) (hr : Rep3 P (free S0 n0 noH μ st.so W) μ st.so W x xv) :
    ∃ gs, Flat (free S0 n0 noH μ st.so W) W s ys gs ∧ (Builtin.lenOf xv).run P W = .ok ys.length W ∧ ∀ m, m ≤ ys.length → (Builtin.firstCells s m xv).run P W = .ok (gs.take (m * s)).toArray W := by
  unfold moreOf at hm
  split at hm
  · rename_i str
    split at hm
    · rename_i hby
      obtain rfl := Option.some.inj hm
      obtain ⟨_, i, hi, k1, _⟩ := byteOk_some hby.1
      obtain rfl : s = 1 := by unfold sizeT at hs; simp [hi] at hs; omega
      obtain ⟨rfl, _⟩ := hr
      have hl : (u8s str).length = str.size := by simp [u8s]
      refine ⟨strCells str, strCells_flat str, by simp [Builtin.lenOf, hl], fun m hm => ?_⟩
      simp only [Builtin.firstCells, Sem.run_pure]
      congr 1
      apply Array.ext'
      simp [strCells]
    · simp at hm
  · split at hm
    · obtain ⟨ad, c, rfl, k1, gs, k2, k3⟩ := h.flat hs0 hm hsz hr
      refine ⟨gs, k2, by simp [Builtin.lenOf], fun m hm => ?_⟩
      cases ad with
      | none =>
        obtain rfl := k1 rfl
        have hgs : gs = [] := List.eq_nil_of_length_eq_zero (by rw [k2.1]; simp)
        subst hgs
        simp [Builtin.firstCells]
      | some ad =>
        have hlen : (gs.take (m * s)).length = m * s := by
          have : m * s ≤ ys.length * s := Nat.mul_le_mul_right _ hm
          rw [List.length_take, k2.1]
          omega
        have := run_loadCells_list (P := P) (w := W) ad (gs.take (m * s)) (fun j v hj => by
          rw [List.getElem?_take] at hj
          split at hj
          · exact k3 ad rfl j v hj
          · simp at hj)
        rw [hlen] at this
        simpa [Builtin.firstCells] using this
    · simp at hm
theorem copy_run (h : Rel P S0 n0 w0 noH st a W A μ) {dst : Option Tmp} {t u ty : TypeId} {s x : TV} {sv xv : Value} (hsr : Rep3 P (free S0 n0 noH μ st.so W) μ st.so W s sv) (hxr : Rep3 P (free S0 n0 noH μ st.so W) μ st.so W x xv) (hs : evCopy P st dst t u (some s) (some x) = some st1) :
    ∃ z W', (Builtin.copy_ #[t, u] ty #[sv, xv]).run P W = .ok z W' ∧ Rel P S0 n0 w0 noH st1 (a.put dst z) W' A μ := by
  cases s with
  | row k off len =>
    simp only [evCopy] at hs
    split at hs
    · rename_i e he
      split at hs
      · rename_i e' xs ys n hk hmore hn
        split at hs
        · rename_i hc
          obtain ⟨rfl, c1, c2⟩ := hc
          obtain rfl := Option.some.inj hs
          obtain ⟨hn1, hn2⟩ := rowSize_some hn
          obtain ⟨gs, k1, k2, k3⟩ := more_cells h hn1 hn2 hmore c2 hxr
          obtain ⟨e2, xs2, s2, q1, q2, q3, q4⟩ := hsr
          rw [hk] at q1
          obtain ⟨rfl, rfl⟩ : e' = e2 ∧ xs = xs2 := by simpa using q1
          obtain rfl : s2 = n := by rw [hn1] at q2; simpa using q2.symm
          have hrun : ∀ ad c, (Builtin.copy_ #[t, u] ty #[.slice ad len c, xv]).run P W = (match ad with | some a => (storeCells a (gs.take (min ys.length len * s2))).run P W | none => .ok () W).andThen fun _ w => .ok (goInt (min ys.length len : Nat)) w := fun ad c => by
            have := k3 (min ys.length len) (Nat.min_le_left _ _)
            have hmn : Nat.min ys.length len = min ys.length len := rfl
            cases ad <;> simp [Builtin.copy_, run_underlying (elemT_eq he), k2, run_sizeOf hn1, this, hmn]
          have hstay : ∀ {ad c}, min ys.length len = 0 → sv = .slice ad len c → ∃ z W', (Builtin.copy_ #[t, u] ty #[sv, xv]).run P W = .ok z W' ∧ Rel P S0 n0 w0 noH ((st.withSo (st.so.ins k (.row e' (xs.take off ++ ys.take len ++ xs.drop (off + min ys.length len))))).put dst (.val (.int .i64 (min ys.length len : Nat)))) (a.put dst z) W' A μ := by
            intro ad c h0 hsv
            have hx : xs.take off ++ ys.take len ++ xs.drop (off + min ys.length len) = xs := by
              have : ys.take len = [] := List.eq_nil_of_length_eq_zero (by rw [List.length_take]; omega)
              rw [this, h0, Nat.add_zero, List.append_nil, List.take_append_drop]
            rw [hx, h0, hsv]
            refine ⟨goInt 0, W, ?_, (h.soCongr (fun j => ?_)).put dst (v := .val (.int .i64 0)) ⟨rfl, rfl⟩⟩
            · rw [hrun, h0]
              cases ad <;> simp [storeCells]
            · rw [get_ins]
              split
              · rename_i e3; subst e3; exact hk.symm
              · rfl
          rcases q4 with ⟨q5, rfl, hsv⟩ | ⟨b, cap, ad, c, q5, hsv, q6, q7, q8⟩
          · have hl0 : len = 0 := by simp at q3; omega
            subst hl0
            exact hstay (by simp) hsv
          · by_cases h0 : min ys.length len = 0
            · exact hstay h0 hsv
            · obtain ⟨rfl, q9⟩ := q8 (.inr (by omega))
              subst hsv
              obtain ⟨hnb, hlt, arr, s3, f, g1, g2, g3, g4, g5, g6, g7, g8⟩ := h.obj k _ hk _ q5
              obtain rfl : s3 = s2 := by rw [hn1] at g2; simpa using g2.symm
              dsimp only at g1 g4 g5 g6 hnb hlt
              generalize hmm : min ys.length len = mm at *
              have hml : mm ≤ len := by omega
              have hmy : mm ≤ ys.length := by omega
              have hnl : (gs.take (mm * s3)).length = mm * s3 := by
                have : mm * s3 ≤ ys.length * s3 := Nat.mul_le_mul_right _ hmy
                rw [List.length_take, k1.1]
                omega
              have hfit : off * s3 + mm * s3 ≤ arr.size := by
                rw [g4, ← Nat.add_mul]
                exact Nat.mul_le_mul_right _ (by omega)
              have hst := run_storeCells_at P b (off * s3) e' (gs.take (mm * s3)) 0 arr W g1 (by rw [hnl]; simpa using hfit) (fun v hv => k1.one hn2 v (List.mem_of_mem_take hv))
              simp only [Nat.add_zero] at hst
              rw [seg_puts arr _ _ (by rw [hnl]; exact hfit)] at hst
              have hlen' : (xs.take off ++ ys.take len ++ xs.drop (off + mm)).length = xs.length := by
                simp only [List.length_append, List.length_take, List.length_drop]
                omega
              refine ⟨goInt mm, W.setRow b (puts arr (off * s3) (gs.take (mm * s3))), ?_, (h.write (cap := cap) hk q5 (o' := .row e' (xs.take off ++ ys.take len ++ xs.drop (off + mm))) ⟨rfl, hlen'⟩ (setRow_size _ _ _) (setRow_below _ _ _ _ hnb) (fun b' hb' => setRow_other _ _ _ _ hb') fun hS hT =>
                RepO.mkRow (setRow_heap _ _ _ _ _ _ g1) hn1 g3 (by rw [size_puts, g4]) g5 (by rw [hlen']; exact g6) (fun w hw => ?_) (fun i w q y hi hq => ?_)).put dst (v := .val (.int .i64 (mm : Nat))) ⟨rfl, rfl⟩⟩
              · rw [hrun]
                simp only [hst, Result.andThen_ok]
              · rcases List.mem_append.1 hw with hw | hw
                · rcases List.mem_append.1 hw with hw | hw
                  · exact g7 w (List.mem_of_mem_take hw)
                  · exact k1.2.1 w (List.mem_of_mem_take hw)
                · exact g7 w (List.mem_of_mem_drop hw)
              · rw [getElem?_puts, hnl, g4]
                have hwl : w.cells.length = s3 := by
                  have hw := List.mem_of_getElem? hi
                  rcases List.mem_append.1 hw with hw | hw
                  · rcases List.mem_append.1 hw with hw | hw
                    · exact g7 w (List.mem_of_mem_take hw)
                    · exact k1.2.1 w (List.mem_of_mem_take hw)
                  · exact g7 w (List.mem_of_mem_drop hw)
                have hqs : q < s3 := by
                  have := (List.getElem?_eq_some_iff.1 hq).1
                  omega
                have hto : (xs.take off).length = off := by rw [List.length_take]; omega
                have hty : (ys.take len).length = mm := by rw [List.length_take]; omega
                rw [List.append_assoc, List.getElem?_append, hto] at hi
                split at hi
                · rename_i hio
                  rw [List.getElem?_take, if_pos hio] at hi
                  obtain ⟨z1, z2⟩ := g8 i w q y hi hq
                  have : (i + 1) * s3 ≤ off * s3 := Nat.mul_le_mul_right _ (by omega)
                  rw [Nat.add_mul, Nat.one_mul] at this
                  exact ⟨_, by rw [if_neg (by omega)]; exact z1, z2.step hS.keep⟩
                · rename_i hio
                  have hofs : off * s3 ≤ i * s3 := Nat.mul_le_mul_right _ (by omega)
                  rw [List.getElem?_append, hty] at hi
                  split at hi
                  · rename_i him
                    rw [List.getElem?_take, if_pos (by omega)] at hi
                    obtain ⟨z, hz, hr⟩ := k1.2.2 _ w q y hi hq
                    have h1 : (i - off + 1) * s3 ≤ mm * s3 := Nat.mul_le_mul_right _ (by omega)
                    rw [Nat.add_mul, Nat.one_mul, Nat.sub_mul] at h1
                    refine ⟨z, ?_, hr.step hS.keep⟩
                    rw [Nat.sub_mul] at hz
                    rw [if_pos (by rw [g4] at hfit; omega), List.getElem?_take, if_pos (by omega), show i * s3 + q - off * s3 = i * s3 - off * s3 + q by omega]
                    exact hz
                  · rename_i him
                    rw [List.getElem?_drop, show off + mm + (i - off - mm) = i by omega] at hi
                    obtain ⟨z1, z2⟩ := g8 i w q y hi hq
                    have h1 : (off + mm) * s3 ≤ i * s3 := Nat.mul_le_mul_right _ (by omega)
                    rw [Nat.add_mul] at h1
                    exact ⟨_, by rw [if_neg (by omega)]; exact z1, z2.step hS.keep⟩
        · simp at hs
      · simp at hs
    · simp at hs
  | _ => simp [evCopy] at hs
theorem some_of_append {st : St} {key d : Nat} {t u : TypeId} {s x : Option TV} (h : evAppend P st key d t u s x = some st1) : ∃ s' x', s = some s' ∧ x = some x' := by
  cases s <;> cases x <;> simp [evAppend] at h
  exact ⟨_, _, rfl, rfl⟩
theorem some_of_copy {st : St} {dst : Option Tmp} {t u : TypeId} {s x : Option TV} (h : evCopy P st dst t u s x = some st1) : ∃ s' x', s = some s' ∧ x = some x' := by
  cases s with
  | none => simp [evCopy] at h
  | some s =>
    cases x with
    | none => cases s <;> simp [evCopy] at h
    | some x => exact ⟨_, _, rfl, rfl⟩
theorem toArray_two {α : Type} {c : Array α} {x y : α} (h : c.toList = [x, y]) : c = #[x, y] := by
  cases c
  simp at h
  rw [h]
theorem putO_some {st : St} {dst : Option Tmp} {v : Option TV} (h : putO st dst v = some st1) : ∃ r, v = some r ∧ st1 = st.put dst r := by
  cases v with
  | none => simp [putO] at h
  | some r => exact ⟨r, rfl, (Option.some.inj h).symm⟩
theorem blt_op (h : Rel P S0 n0 w0 noH st a W A μ) {o : Oper} {c : Call} {b : Builtin} {base : Nat} (ho : o.op = .call c) (hc : c.callee = .builtin b) (hs : evBlt P st base o.dst c.argTypes.toList (rdArgs (rdv st.tm) c.args.toList) b = some st1)
    {K : Act → World → Prop} {Q : Exit → Act → World → Prop} (hK : ∀ a' W' μ', Rel P S0 n0 w0 noH st1 a' W' A μ' → K a' W') : o.wp P a W K Q := by
  obtain ⟨consts, hx⟩ := call_builtin ho hc a.eval
  have plain : ∀ b, putO st o.dst (bltTV P b c.argTypes.toList (rdArgs (rdv st.tm) c.args.toList)) = some st1 → execOp a.eval o = builtin b c.argTypes o.type consts (c.args.map a.eval) → o.wp P a W K Q := fun b hs hx => by
    obtain ⟨r, hr, rfl⟩ := putO_some hs
    obtain ⟨z, h1, h2⟩ := blt_run (P := P) (ty := o.type) (consts := consts) (us := c.args.map a.eval) (by simpa using h.args c.args.toList) hr
    exact wp_value (z := z) (W' := W) (by rw [hx, h1]) (hK _ _ _ (h.put o.dst h2))
  unfold evBlt at hs
  split at hs
  · split at hs
    · rename_i d t u s x hd hty hxs
      obtain ⟨s', x', rfl, rfl⟩ := some_of_append hs
      obtain ⟨p, q, hl, hp, hq⟩ := rdArgs_two hxs
      obtain ⟨z, W', μ', h1, h2⟩ := append_run h (ty := o.type) (h.eval hp) (h.eval hq) hs
      refine wp_value (z := z) (W' := W') ?_ (by rw [hd]; exact hK _ _ _ h2)
      rw [hx, toArray_two hty, toArray_two hl]
      simp [builtin, h1]
    · simp at hs
  · split at hs
    · rename_i t u s x hty hxs
      obtain ⟨s', x', rfl, rfl⟩ := some_of_copy hs
      obtain ⟨p, q, hl, hp, hq⟩ := rdArgs_two hxs
      obtain ⟨z, W', h1, h2⟩ := copy_run h (ty := o.type) (h.eval hp) (h.eval hq) hs
      refine wp_value (z := z) (W' := W') ?_ (hK _ _ _ h2)
      rw [hx, toArray_two hty, toArray_two hl]
      simp [builtin, h1]
    · simp at hs
  · exact plain _ hs hx
end
end Go.Proofs.YtlhjljplfmmoaaaGreatDoor.Ev
/- Soundness of the evaluator, part 19: calls. -/
namespace Go.Proofs.YtlhjljplfmmoaaaGreatDoor.Ev
open Go Go.RowKit Go.Lib
/-- Values side by side. -/
def RepVL (S : Nat → Prop) (W : World) : List PV → List Value → Prop
  | [], [] => True
  | x :: xs, u :: us => RepV S W x u ∧ RepVL S W xs us
  | _, _ => False
/-- What a function returns. -/
def RepRes (S : Nat → Prop) (W : World) (rs : List PV) (v : Value) : Prop := (∃ x, rs = [x] ∧ RepV S W x v) ∨ (rs.length ≠ 1 ∧ ∃ arr : Array Value, v = .tuple arr ∧ RepVL S W rs arr.toList)
/-- The function f, called as an operation calls it, comes back with R. -/
def Does (P : Program) (f : FuncId) (args : Array Value) (W : World) (R : Value → World → Prop) : Prop :=
  match (callFunc f args).run P W with
  | .ok (.value v) W' => R v W'
  | .ok (.enter g as) W' => Calls P g as W' (fun e W'' => ∃ v, e = .returned v ∧ R v W'')
  | _ => False
section
variable {P : Program} {S0 H H' : Nat → Prop} {n0 : Nat} {w0 : World} {st st1 : St} {a : Act} {W W' : World} {A : List (Array Value)} {μ μ' : Mu} {S S' : Nat → Prop} {so so' : Store}
theorem Does.mono {f : FuncId} {args : Array Value} {R R' : Value → World → Prop} (h : Does P f args W R) (hr : ∀ v W', R v W' → R' v W') : Does P f args W R' := by
  unfold Does at *
  split at h
  · exact hr _ _ h
  · exact h.mono fun e W'' ⟨v, he, hv⟩ => ⟨v, he, hr _ _ hv⟩
  · exact h.elim
theorem call_func {o : Oper} {c : Call} {f : FuncId} (ho : o.op = .call c) (hc : c.callee = .value (.func f)) (a : Act) : execOp a.eval o = callFunc f (c.args.map a.eval) := by
  have hf : a.eval (.func f) = .func (.func f) #[] #[] := rfl
  simp only [execOp, ho, resolve, hc, hf, Deferred.ofValue, pure_bind, invoke]
  simp
theorem call_wp {o : Oper} {c : Call} {f : FuncId} {R : Value → World → Prop} (ho : o.op = .call c) (hc : c.callee = .value (.func f)) (h : Does P f (c.args.map a.eval) W R)
    {K : Act → World → Prop} {Q : Exit → Act → World → Prop} (hK : ∀ v W', R v W' → K (a.put o.dst v) W') : o.wp P a W K Q := by
  unfold Oper.wp
  rw [call_func ho hc]
  unfold Does at h
  split at h
  · rename_i v W' hr
    rw [hr]
    exact hK _ _ h
  · rename_i g as W' hr
    rw [hr]
    simp only [Oper.upon]
    refine h.mono fun e W'' ⟨v, he, hv⟩ => ?_
    subst he
    exact hK _ _ hv
  · exact h.elim
theorem RepVL.step : ∀ {xs : List PV} {us : List Value}, RepVL S W xs us → Same S S' W W' → RepVL S' W' xs us
  | [], [], _, _ => trivial
  | _ :: _, _ :: _, h, hS => ⟨h.1.step hS.keep, RepVL.step h.2 hS⟩
  | [], _ :: _, h, _ => h.elim
  | _ :: _, [], h, _ => h.elim
theorem RepRes.step {rs : List PV} {v : Value} (h : RepRes S W rs v) (hS : Same S S' W W') : RepRes S' W' rs v := by
  rcases h with ⟨x, rfl, hr⟩ | ⟨hl, arr, rfl, hr⟩
  · exact .inl ⟨x, rfl, hr.step hS.keep⟩
  · exact .inr ⟨hl, arr, rfl, hr.step hS⟩
theorem RepVL.get : ∀ {xs : List PV} {us : List Value}, RepVL S W xs us → us.length = xs.length ∧ ∀ (j : Nat) (x : PV), xs[j]? = some x → ∃ u, us[j]? = some u ∧ RepV S W x u
  | [], [], _ => ⟨rfl, fun j x hj => by simp at hj⟩
  | x :: xs, u :: us, h => by
    obtain ⟨h1, h2⟩ := RepVL.get h.2
    refine ⟨by simp [h1], fun j y hj => ?_⟩
    cases j with
    | zero => obtain rfl : x = y := by simpa using hj
              exact ⟨u, rfl, h.1⟩
    | succ j => exact h2 j y (by simpa using hj)
  | [], _ :: _, h => h.elim
  | _ :: _, [], h => h.elim
theorem RepRes.tv {rs : List PV} {v : Value} (h : RepRes S W rs v) : Rep3 P S μ so W (tupTV rs) v := by
  rcases h with ⟨x, rfl, hr⟩ | ⟨hl, arr, rfl, hr⟩
  · exact hr.tv.one
  · have : tupTV rs = .tup (rs.map PV.tv) := by
      unfold tupTV
      split
      · simp at hl
      · rfl
    rw [this]
    obtain ⟨h1, h2⟩ := hr.get
    refine ⟨arr, rfl, by rw [List.length_map, ← h1, Array.length_toList], fun j c hj => ?_⟩
    rw [List.getElem?_map, Option.map_eq_some_iff] at hj
    obtain ⟨x, hx, rfl⟩ := hj
    obtain ⟨u, hu, hr⟩ := h2 j x hx
    exact ⟨u, by simpa using hu, hr.tv⟩
theorem noSl1 {x : PV} {v : Value} (h : Rep S W x v) (hn : hasSl1 x = false) : Rep S' W' x v := by
  cases h with
  | val _ hs => exact .val _ hs
  | sl => simp [hasSl1] at hn
  | fn => simp [hasSl1] at hn
theorem noSl {x : PV} {v : Value} (h : RepV S W x v) (hn : hasSl x = false) : RepV S' W' x v := by
  cases x with
  | val w => exact (noSl1 (x := .val w) h hn)
  | sl xs => exact (noSl1 (x := .sl xs) h hn)
  | fn f xs => exact (noSl1 (x := .fn f xs) h hn)
  | agg cs =>
    obtain ⟨arr, rfl, hl, hc⟩ := h
    refine ⟨arr, rfl, hl, fun j y hy => ?_⟩
    obtain ⟨u, hu, hr⟩ := hc j y hy
    refine ⟨u, hu, noSl1 hr ?_⟩
    simp only [hasSl, List.any_eq_false] at hn
    simpa using hn y (List.mem_of_getElem? hy)
theorem noSlL : ∀ {xs : List PV} {us : List Value}, RepVL S W xs us → anySl xs = false → RepVL S' W' xs us
  | [], [], _, _ => trivial
  | _ :: _, _ :: _, h, hn => by
    simp only [anySl, Bool.or_eq_false_iff] at hn
    exact ⟨noSl h.1 hn.1, noSlL h.2 hn.2⟩
  | [], _ :: _, h, _ => h.elim
  | _ :: _, [], h, _ => h.elim
theorem noSlRes {rs : List PV} {v : Value} (h : RepRes S W rs v) (hn : anySl rs = false) : RepRes S' W' rs v := by
  rcases h with ⟨x, rfl, hr⟩ | ⟨hl, arr, rfl, hr⟩
  · simp [anySl] at hn
    exact .inl ⟨x, rfl, noSl hr hn⟩
  · exact .inr ⟨hl, arr, rfl, noSlL hr hn⟩
theorem Rel.argsPV (h : Rel P S0 n0 w0 H st a W A μ) (hS : ∀ b, free S0 n0 H μ st.so W b → S' b) : ∀ (xs : List (Option TV)) (us : List Value) (ps : List PV), RepL P (free S0 n0 H μ st.so W) μ st.so W xs us → Ev.argsPV st.so xs = some ps →
    (∀ k, k ∈ rowsOf xs → ∀ e ys, st.so.get k = some (.row e ys) → ∀ c, μ k = some c → S' c.1) → RepVL S' W ps us := by
  intro xs
  induction xs with
  | nil =>
    intro us ps hr hp _
    cases us with
    | nil => simp [Ev.argsPV] at hp; subst hp; trivial
    | cons _ _ => exact hr.elim
  | cons v xs ih =>
    intro us ps hr hp hb
    cases v with
    | none => simp [Ev.argsPV] at hp
    | some v =>
      cases us with
      | nil => exact hr.elim
      | cons u us =>
        simp only [Ev.argsPV] at hp
        split at hp
        · rename_i x ps' hx hps'
          obtain rfl := Option.some.inj hp
          exact ⟨h.pv hS hx hr.1 (fun k hk => hb k (by simp [rowsOf, hk])), ih us ps' hr.2 hps' (fun k hk => hb k (by simp [rowsOf, hk]))⟩
        · simp at hp
/-- What the calls by value promise. -/
def SoundA (P : Program) (B : Nat) (w00 : World) (callA : FuncId → List PV → Option (List PV)) : Prop :=
  ∀ f ps rs, callA f ps = some rs → ∀ (S : Nat → Prop) (W : World) (args : Array Value), Below B w00 W → (∀ b, S b → b < W.heap.size) → RepVL S W ps args.toList →
    Does P f args W fun v W' => Below W.heap.size W W' ∧ RepRes (fun b => (S b ∨ W.heap.size ≤ b) ∧ b < W'.heap.size) W' rs v
theorem Below.toSmall {B : Nat} {w00 : World} (hw : Below B w00 w0) (h : Rel P S0 n0 w0 H st a W A μ) (hB : B ≤ n0) : Below B w00 W := hw.trans (h.below.mono hB)
theorem callA_core (h : Rel P S0 n0 w0 noH st a W A μ) {callA : FuncId → List PV → Option (List PV)} {B : Nat} {w00 : World} (hA : SoundA P B w00 callA) (hB : B ≤ n0) (hw : Below B w00 w0) {f : FuncId} {xs : List (Option TV)} {us : Array Value} {ps rs : List PV}
    (hx : RepL P (free S0 n0 noH μ st.so W) μ st.so W xs us.toList) (hp : Ev.argsPV st.so xs = some ps) (hr : callA f ps = some rs) :
    Does P f us W fun v W' => Rel P S0 n0 w0 noH st a W' A μ ∧ Below W.heap.size W W' ∧
      RepRes (fun b => ((free S0 n0 noH μ st.so W b ∨ ∃ k e ys c, k ∈ rowsOf xs ∧ st.so.get k = some (.row e ys) ∧ μ k = some c ∧ c.1 = b) ∨ W.heap.size ≤ b) ∧ b < W'.heap.size) W' rs v := by
  refine (hA f ps rs hr (fun b => free S0 n0 noH μ st.so W b ∨ ∃ k e ys c, k ∈ rowsOf xs ∧ st.so.get k = some (.row e ys) ∧ μ k = some c ∧ c.1 = b) W us (Below.toSmall hw h hB) (fun b hb => ?_) (h.argsPV (fun b hb => .inl hb) xs us.toList ps hx hp (fun k hk e ys hg c hc => .inr ⟨k, e, ys, c, hk, hg, hc, rfl⟩))).mono fun v W' ⟨h1, h2⟩ => ⟨?_, h1, h2⟩
  · rcases hb with hb | ⟨k, e, ys, c, _, hg, hc, rfl⟩
    · exact hb.2.2.1
    · exact (h.obj k _ hg c hc).2.1
  · exact h.world (h.below.trans (h1.mono h.old)) h1.size (fun b hb _ => h1.block b hb) (fun b hb => .inl hb)
theorem new_free (h : Rel P S0 n0 w0 noH st a W A μ) {so' : Store} (hso : ∀ k, (so'.get k).isSome = true → (st.so.get k).isSome = true) {b : Nat} (h1 : W.heap.size ≤ b) (h2 : b < W'.heap.size) : free S0 n0 noH μ so' W' b := by
  refine ⟨.inr (Nat.le_trans h.old h1), fun hb => hb.elim, h2, fun k c hk hc he => ?_⟩
  obtain ⟨o, ho⟩ := Option.isSome_iff_exists.1 (hso k hk)
  have := (h.obj k o ho c hc).2.1
  omega
theorem callA_op (h : Rel P S0 n0 w0 noH st a W A μ) {D : Dat} {B : Nat} {w00 : World} (hA : SoundA P B w00 D.callA) (hB : B ≤ n0) (hw : Below B w00 w0) {o : Oper} {c : Call} {f : FuncId} (ho : o.op = .call c) (hc : c.callee = .value (.func f))
    (hs : putA st o.dst (rdArgs (rdv st.tm) c.args.toList) (callS D f (Ev.argsPV st.so (rdArgs (rdv st.tm) c.args.toList))) = some st1)
    {K : Act → World → Prop} {Q : Exit → Act → World → Prop} (hK : ∀ a' W' μ', Rel P S0 n0 w0 noH st1 a' W' A μ' → K a' W') : o.wp P a W K Q := by
  unfold putA at hs
  split at hs
  · rename_i rs hrs
    obtain rfl := Option.some.inj hs
    unfold callS at hrs
    split at hrs
    · rename_i ps hps
      refine call_wp ho hc (callA_core h hA hB hw (us := c.args.map a.eval) (by simpa using h.args c.args.toList) hps hrs) fun v W' ⟨h1, h2, h3⟩ => ?_
      cases hn : anySl rs with
      | true =>
        have he : sealCall st (rdArgs (rdv st.tm) c.args.toList) rs = sealAll (rowsOf (rdArgs (rdv st.tm) c.args.toList)) st := by unfold sealCall; rw [hn]
        rw [he] at hK
        refine hK _ _ μ ((h1.sealAll _).put o.dst (RepRes.tv (h3.step ⟨fun b hb => ⟨?_, fun _ => rfl⟩⟩)))
        obtain ⟨hb, hlt⟩ := hb
        have hsub := sealAll_sub (rowsOf (rdArgs (rdv st.tm) c.args.toList)) st
        rcases hb with (hb | ⟨k, e, ys, c, hk, hg, hc, rfl⟩) | hb
        · exact free_sub (fun j hj => hsub j hj) h2.size (fun b hb => .inl hb) hb
        · exact sealAll_free _ h1 k hk e ys hg c hc
        · exact new_free h (fun j hj => hsub j hj) hb hlt
      | false =>
        have he : sealCall st (rdArgs (rdv st.tm) c.args.toList) rs = st := by unfold sealCall; rw [hn]
        rw [he] at hK
        exact hK _ _ μ (h1.put o.dst (RepRes.tv (noSlRes h3 hn)))
    · simp at hrs
  · simp at hs
/-- What the calls that are handed variables promise. -/
def SoundB (P : Program) (B : Nat) (w00 : World) (callB : FuncId → List (Option TV) → Nat → St → Option (List TV × St)) : Prop :=
  ∀ f xs base st vs st', callB f xs base st = some (vs, st') → ∀ (S0 : Nat → Prop) n0 w0 a W A μ (us : Array Value), Rel P S0 n0 w0 noH st a W A μ → B ≤ n0 → Below B w00 w0 → RepL P (free S0 n0 noH μ st.so W) μ st.so W xs us.toList →
    Does P f us W fun v W' => ∃ μ', Rel P S0 n0 w0 noH st' a W' A μ' ∧ Rep3 P (free S0 n0 noH μ' st'.so W') μ' st'.so W' (tupB vs) v
theorem callB_op (h : Rel P S0 n0 w0 noH st a W A μ) {D : Dat} {B : Nat} {w00 : World} (hA : SoundB P B w00 D.callB) (hB : B ≤ n0) (hw : Below B w00 w0) {o : Oper} {c : Call} {f : FuncId} {base : Nat} (ho : o.op = .call c) (hc : c.callee = .value (.func f))
    (hs : putB o.dst (D.callB f (rdArgs (rdv st.tm) c.args.toList) base st) = some st1)
    {K : Act → World → Prop} {Q : Exit → Act → World → Prop} (hK : ∀ a' W' μ', Rel P S0 n0 w0 noH st1 a' W' A μ' → K a' W') : o.wp P a W K Q := by
  unfold putB at hs
  split at hs
  · rename_i vs st' hr
    obtain rfl := Option.some.inj hs
    refine call_wp ho hc (hA f _ base st vs st' hr S0 n0 w0 a W A μ (c.args.map a.eval) h hB hw (by simpa using h.args c.args.toList)) fun v W' ⟨μ', h1, h2⟩ => ?_
    exact hK _ _ μ' (h1.put o.dst h2)
  · simp at hs
structure Sound (P : Program) (B : Nat) (w00 : World) (D : Dat) : Prop where
  a : SoundA P B w00 D.callA
  b : SoundB P B w00 D.callB
/-- ONE OPERATION. -/
theorem op_run (h : Rel P S0 n0 w0 noH st a W A μ) {D : Dat} {B : Nat} {w00 : World} (hD : Sound P B w00 D) (hB : B ≤ n0) (hw : Below B w00 w0) {o : Oper} {base : Nat} (hs : evStep P D base o st = some st1)
    {K : Act → World → Prop} {Q : Exit → Act → World → Prop} (hK : ∀ a' W' μ', Rel P S0 n0 w0 noH st1 a' W' A μ' → K a' W') : o.wp P a W K Q := by
  unfold evStep at hs
  have plain : (∀ c, o.op ≠ .call c) → putO st o.dst (evVal P D.callA (rdv st.tm) st.so o.op) = some st1 → o.wp P a W K Q := fun hc hs => by
    obtain ⟨r, hr, rfl⟩ := putO_some hs
    obtain ⟨z, W', h1, h2, h3⟩ := val_run h (fun hb => hb) hc hr
    exact wp_value h1 (hK _ _ μ (h2.put o.dst h3))
  unfold evOp at hs
  split at hs
  · rename_i t p x hop
    exact store_op h hop hs hK
  · rename_i t hop
    split at hs
    · rename_i d hd
      exact alloc_op h hop hd hs hK
    · simp at hs
  · rename_i t x hop
    split at hs
    · rename_i d hd
      exact box_op h hop hd hs hK
    · simp at hs
  · rename_i t len parts hop
    split at hs
    · rename_i d hd
      exact lit_op h hop hd hs hK
    · simp at hs
  · rename_i t l c hop
    split at hs
    · rename_i d hd
      exact make_op h hop hd hs hK
    · simp at hs
  · rename_i c hop
    unfold evCallS at hs
    split at hs
    · rename_i b hc
      exact blt_op h hop hc hs hK
    · rename_i f hc
      unfold evGo at hs
      split at hs
      · exact callB_op h hD.b hB hw hop hc hs hK
      · exact callA_op h hD.a hB hw hop hc hs hK
    · simp at hs
  · rename_i h1 h2 h3 h4 h5 h6
    exact plain (fun c hc => h6 c hc) hs
end
end Go.Proofs.YtlhjljplfmmoaaaGreatDoor.Ev
