/- The given functions' contracts, in the evaluator's words. -/
import Derived.Laws.Externs
import Derived.Lib.Bytealg
import Derived.Lib.SlKeysI
import Derived.Test.YtlhjljplfmmoaaaGreatDoorC2
import Derived.Test.YtlhjljplfmmoaaaGreatDoorM3
import Derived.KernelRfl
set_option linter.unusedSimpArgs false
set_option linter.unusedVariables false
namespace Go.Proofs.YtlhjljplfmmoaaaGreatDoor.Ev
open Go Go.RowKit Go.Shelf Go.Proofs Go.Sort Go.Maps
set_option maxRecDepth 100000
section
variable {P : Program} {S : Nat → Prop} {W : World}
theorem does_calls {f : FuncId} {args : Array Value} {R : Value → World → Prop} (he : (callFunc f args).run P W = .ok (.enter f args) W) (h : Calls P f args W fun e W' => ∃ v, e = .returned v ∧ R v W') : Does P f args W R := by
  unfold Does; rw [he]; exact h
theorem does_value {f : FuncId} {args : Array Value} {R : Value → World → Prop} {v : Value} (he : (callFunc f args).run P W = .ok (.value v) W) (h : R v W) : Does P f args W R := by
  unfold Does; rw [he]; exact h
theorem given_ok {B : Nat} {w00 : World} {f : FuncId} {g : List PV → Option (List PV)}
    (h : ∀ ps rs, g ps = some rs → ∀ (S : Nat → Prop) (W : World) (args : Array Value), (∀ b, S b → b < W.heap.size) → RepVL S W ps args.toList →
      Does P f args W fun v W' => Below W.heap.size W W' ∧ RepRes (fun b => (S b ∨ W.heap.size ≤ b) ∧ b < W'.heap.size) W' rs v) :
    SoundA P B w00 (fun f' ps => if f' = f then g ps else none) := by
  intro f' ps rs he S W args _ hS hR
  dsimp only at he
  split at he
  · rename_i hf; subst hf
    exact h ps rs he S W args hS hR
  · simp at he
theorem repVL1 {x : PV} {us : List Value} (h : RepVL S W [x] us) : ∃ u, us = [u] ∧ RepV S W x u := by
  match us, h with
  | [u], h => exact ⟨u, rfl, h.1⟩
  | u :: v :: t, h => exact h.2.elim
theorem repVL2 {x y : PV} {us : List Value} (h : RepVL S W [x, y] us) : ∃ u v, us = [u, v] ∧ RepV S W x u ∧ RepV S W y v := by
  match us, h with
  | [u], h => exact h.2.elim
  | [u, v], h => exact ⟨u, v, rfl, h.1, h.2.1⟩
  | u :: v :: w :: t, h => exact h.2.2.elim
theorem rep_val {v u : Value} (h : Rep S W (.val v) u) : u = v := by cases h; rfl
theorem rep_slice {xs : List PV} {u : Value} (h : Rep S W (.sl xs) u) : ∃ (a : Option Addr) (c s : Nat) (f : Nat → Nat → Value), u = .slice a xs.length c ∧ xs.length ≤ c ∧ c ≤ maxLen ∧ (xs ≠ [] → ∃ ad, a = some ad) ∧ (∀ x, x ∈ xs → x.cells.length = s) ∧
    (∀ ad, a = some ad → ∀ (i : Nat) x, xs[i]? = some x → S ad.block ∧ ∀ (j : Nat) y, x.cells[j]? = some y → W.cell? (ad.add (i * s + j)) = some (f i j)) ∧ (∀ (i : Nat) x (j : Nat) y, xs[i]? = some x → x.cells[j]? = some y → Rep S W y (f i j)) := by
  cases h with
  | sl xs a c s f h1 h2 h3 h4 h5 h6 => exact ⟨a, c, s, f, rfl, h1, h2, h3, h4, h5, h6⟩
theorem rep_func {g : FuncId} {xs : List PV} {u : Value} (h : Rep S W (.fn g xs) u) : ∃ ad s, u = .func (.func g) #[] #[.pointer (some ad)] ∧ S ad.block ∧ W.cell? ad = some s ∧ Rep S W (.sl xs) s := by
  cases h with
  | fn f xs ad s h1 h2 h3 => exact ⟨ad, s, rfl, h1, h2, h3⟩
theorem cell_spot {ad : Addr} {v : Value} (h : W.cell? ad = some v) : ad = ⟨ad.block, ad.off, none⟩ := by
  unfold World.cell? at h
  split at h
  · split at h
    · simp at h
    · rename_i hs
      obtain ⟨b, o, sp⟩ := ad
      cases sp with
      | none => rfl
      | some k => simp at hs
  · simp at h
theorem add_zero' (a : Addr) : a.add 0 = a := by simp [Addr.add]
theorem add_none (b o j : Nat) : (⟨b, o, none⟩ : Addr).add j = ⟨b, o + j, none⟩ := by
  unfold Addr.add
  split
  · rename_i h; rw [h]; rfl
  · rfl
/-- A slice of one-cell values, read. -/
theorem slice_cells {α : Type} {enc : α → Value} {xs : List α} {u : Value} (h : Rep S W (.sl (xs.map fun x => .val (enc x))) u) :
    (xs = [] ∧ ∃ a c, u = .slice a 0 c) ∨ (xs ≠ [] ∧ ∃ b off c, u = .slice (some ⟨b, off, none⟩) xs.length c ∧ xs.length ≤ c ∧ S b ∧ ∀ (j : Nat) x, xs[j]? = some x → W.cell? ⟨b, off + j, none⟩ = some (enc x)) := by
  obtain ⟨a, c, s, f, rfl, h1, h2, h3, h4, h5, h6⟩ := rep_slice h
  rw [List.length_map] at *
  cases xs with
  | nil => exact .inl ⟨rfl, a, c, rfl⟩
  | cons x0 t =>
    right
    obtain ⟨ad, rfl⟩ := h3 (by simp)
    have hs : s = 1 := by
      have := h4 (.val (enc x0)) (by simp)
      exact this.symm
    subst hs
    have hcell : ∀ (j : Nat) x, (x0 :: t)[j]? = some x → S ad.block ∧ W.cell? (ad.add j) = some (enc x) := by
      intro j x hx
      have hx' : ((x0 :: t).map fun x => PV.val (enc x))[j]? = some (.val (enc x)) := by rw [List.getElem?_map, hx]; rfl
      obtain ⟨k1, k2⟩ := h5 ad rfl j _ hx'
      have k3 := k2 0 (.val (enc x)) rfl
      have k4 := rep_val (h6 j _ 0 (.val (enc x)) hx' rfl)
      rw [k4] at k3
      exact ⟨k1, by simpa using k3⟩
    have h0 := hcell 0 x0 rfl
    have hsp : ad = ⟨ad.block, ad.off, none⟩ := by
      have h00 := h0.2
      rw [add_zero'] at h00
      exact cell_spot h00
    refine ⟨by simp, ad.block, ad.off, c, by rw [← hsp], h1, h0.1, fun j x hx => ?_⟩
    have := (hcell j x hx).2
    rw [hsp, add_none] at this
    exact this
end
theorem countL_eq (c : UInt8) : ∀ l : List UInt8, countL c l = l.count c
  | [] => rfl
  | x :: t => by
    unfold countL
    rw [List.count_cons, countL_eq c t]
    split <;> rfl
theorem indexL_eq (c : UInt8) : ∀ (l : List UInt8) (i : Int), 0 ≤ i → indexL c l i = if Lib.indexByte l c = -1 then -1 else Lib.indexByte l c + i
  | [], i, _ => by simp [indexL, Lib.indexByte]
  | x :: t, i, h => by
    have hg := Lib.indexByte_ge t c
    unfold indexL Lib.indexByte
    by_cases hx : (x == c) = true
    · simp [hx]
    · rw [if_neg hx, if_neg hx, indexL_eq c t (i + 1) (by omega)]
      by_cases h1 : Lib.indexByte t c = -1
      · simp [h1]
      · have h2 : ¬ (Lib.indexByte t c == -1) = true := by simpa using h1
        rw [if_neg h1, if_neg h2, if_neg (by omega)]
        omega
theorem indexL_zero (c : UInt8) (l : List UInt8) : indexL c l 0 = Lib.indexByte l c := by
  rw [indexL_eq c l 0 (by decide)]
  split <;> omega
theorem count_ok : ∀ ps rs, gCount ps = some rs → ∀ (S : Nat → Prop) (W : World) (args : Array Value), (∀ b, S b → b < W.heap.size) → RepVL S W ps args.toList →
    Does Tryz.prog 169 args W fun v W' => Below W.heap.size W W' ∧ RepRes (fun b => (S b ∨ W.heap.size ≤ b) ∧ b < W'.heap.size) W' rs v := by
  intro ps rs hg S W args hS hR
  unfold gCount at hg
  split at hg
  · rename_i s c
    simp only [Option.some.injEq] at hg
    subst hg
    obtain ⟨u, v, hu, h1, h2⟩ := repVL2 hR
    obtain rfl := rep_val h1
    obtain rfl := rep_val h2
    obtain rfl : args = #[.string s, .int .u8 c] := Array.toList_inj.1 hu
    refine does_value (v := .int .i64 (Lib.countByte s.data.toList c.toNat.toUInt8)) ?_ ⟨Below.refl _ _, .inl ⟨_, rfl, ?_⟩⟩
    · rw [run_callFunc_extern Tryz.func169 (by kernel_rfl) (by kernel_rfl) (by kernel_rfl) (e := Extern.BytealgCount.count) (by kernel_rfl), Lib.run_countString]
      rfl
    · rw [countL_eq]
      exact Rep.val _ rfl
  · simp at hg
theorem indexByte_ok : ∀ ps rs, gIndexByte ps = some rs → ∀ (S : Nat → Prop) (W : World) (args : Array Value), (∀ b, S b → b < W.heap.size) → RepVL S W ps args.toList →
    Does Tryz.prog 178 args W fun v W' => Below W.heap.size W W' ∧ RepRes (fun b => (S b ∨ W.heap.size ≤ b) ∧ b < W'.heap.size) W' rs v := by
  intro ps rs hg S W args hS hR
  unfold gIndexByte at hg
  split at hg
  · rename_i s c
    simp only [Option.some.injEq] at hg
    subst hg
    obtain ⟨u, v, hu, h1, h2⟩ := repVL2 hR
    obtain rfl := rep_val h1
    obtain rfl := rep_val h2
    obtain rfl : args = #[.string s, .int .u8 c] := Array.toList_inj.1 hu
    refine does_value (v := .int .i64 (Lib.indexByte s.data.toList c.toNat.toUInt8)) ?_ ⟨Below.refl _ _, .inl ⟨_, rfl, ?_⟩⟩
    · rw [run_callFunc_extern Tryz.func178 (by kernel_rfl) (by kernel_rfl) (by kernel_rfl) (e := Extern.BytealgIndexByte.indexByte) (by kernel_rfl), Lib.run_indexByteString]
      rfl
    · rw [indexL_zero]
      exact Rep.val _ rfl
  · simp at hg
theorem values_ok : ∀ ps rs, gValues ps = some rs → ∀ (S : Nat → Prop) (W : World) (args : Array Value), (∀ b, S b → b < W.heap.size) → RepVL S W ps args.toList →
    Does Tryz.prog 70 args W fun v W' => Below W.heap.size W W' ∧ RepRes (fun b => (S b ∨ W.heap.size ≤ b) ∧ b < W'.heap.size) W' rs v := by
  intro ps rs hg S W args hS hR
  unfold gValues at hg
  split at hg
  · rename_i xs
    simp only [Option.some.injEq] at hg
    subst hg
    obtain ⟨u, hu, h1⟩ := repVL1 hR
    have h1' : Rep S W (.sl xs) u := h1
    obtain ⟨a, c, s, f, rfl, _⟩ := rep_slice h1'
    obtain rfl : args = #[.slice a xs.length c] := Array.toList_inj.1 hu
    refine does_calls (enters_of Tryz.func70 (by kernel_rfl) rfl _ _) ((callsIn_wide.1 (values_in Fence.wide 1 trivial rfl a xs.length c W)).mono ?_)
    rintro e W' ⟨rfl, rfl⟩
    have hb : Below W.heap.size W (W.alloc (.cells #[.slice a xs.length c] 23)) := (Below.refl _ W).alloc (Nat.le_refl _) _
    refine ⟨_, rfl, hb, .inl ⟨_, rfl, ?_⟩⟩
    refine Rep.fn 101 xs ⟨W.heap.size, 0, none⟩ (.slice a xs.length c) ⟨.inr (Nat.le_refl _), by simp⟩ (by unfold World.cell?; rw [World.alloc_heap_new]; rfl) ?_
    exact h1'.step fun k hk => ⟨⟨.inl hk, by have := hS k hk; simp; omega⟩, fun hlt => hb.block k hlt⟩
  · simp at hg
theorem ins_perm (x : Int) : ∀ l : List Int, (ins x l).Perm (x :: l)
  | [] => List.Perm.refl _
  | y :: t => by
    unfold ins
    split
    · exact List.Perm.refl _
    · exact ((ins_perm x t).cons y).trans (List.Perm.swap x y t)
theorem isort_perm : ∀ l : List Int, (isort l).Perm l
  | [] => List.Perm.refl _
  | x :: t => (ins_perm x (isort t)).trans ((isort_perm t).cons x)
theorem ins_sorted (x : Int) : ∀ l : List Int, l.Pairwise (fun a b => (decide (a ≤ b)) = true) → (ins x l).Pairwise (fun a b => (decide (a ≤ b)) = true)
  | [], _ => by simp [ins]
  | y :: t, h => by
    unfold ins
    have h1 := (List.pairwise_cons.1 h).1
    have h2 := (List.pairwise_cons.1 h).2
    split
    · rename_i hxy
      refine List.pairwise_cons.2 ⟨fun z hz => ?_, h⟩
      rcases List.mem_cons.1 hz with rfl | hz
      · simpa using hxy
      · have := h1 z hz
        simp only [decide_eq_true_eq] at this ⊢
        omega
    · rename_i hxy
      refine List.pairwise_cons.2 ⟨fun z hz => ?_, ins_sorted x t h2⟩
      rcases List.mem_cons.1 ((ins_perm x t).mem_iff.1 hz) with rfl | hz
      · simp only [decide_eq_true_eq]; omega
      · exact h1 z hz
theorem isort_sorted : ∀ l : List Int, (isort l).Pairwise (fun a b => (decide (a ≤ b)) = true)
  | [] => List.Pairwise.nil
  | x :: t => ins_sorted x _ (isort_sorted t)
theorem mergeSort_isort (l : List Int) : l.mergeSort (fun x y => decide (x ≤ y)) = isort l := by
  rw [← List.mergeSort_of_pairwise (isort_sorted l)]
  exact mergeSort_of_perm_i (isort_perm l).symm
theorem intsOf_eq : ∀ {xs : List PV} {zs : List Int}, intsOf xs = some zs → xs = zs.map intP
  | [], zs, h => by simp [intsOf] at h; subst h; rfl
  | x :: t, zs, h => by
    unfold intsOf at h
    split at h
    · rename_i heq; cases heq
    · rename_i n t' heq
      cases heq
      split at h
      · rename_i l hl
        simp only [Option.some.injEq] at h
        rw [← h, List.map_cons, ← intsOf_eq hl]
        rfl
      · simp at h
    · simp at h
theorem strsOf_eq : ∀ {xs : List PV} {zs : List ByteArray}, strsOf xs = some zs → xs = zs.map strP
  | [], zs, h => by simp [strsOf] at h; subst h; rfl
  | x :: t, zs, h => by
    unfold strsOf at h
    split at h
    · rename_i heq; cases heq
    · rename_i n t' heq
      cases heq
      split at h
      · rename_i l hl
        simp only [Option.some.injEq] at h
        rw [← h, List.map_cons, ← strsOf_eq hl]
        rfl
      · simp at h
    · simp at h
theorem sorted_ok : ∀ ps rs, gSorted ps = some rs → ∀ (S : Nat → Prop) (W : World) (args : Array Value), (∀ b, S b → b < W.heap.size) → RepVL S W ps args.toList →
    Does Tryz.prog 69 args W fun v W' => Below W.heap.size W W' ∧ RepRes (fun b => (S b ∨ W.heap.size ≤ b) ∧ b < W'.heap.size) W' rs v := by
  intro ps rs hg S W args hS hR
  unfold gSorted at hg
  split at hg
  · rename_i f xs
    split at hg
    · rename_i hf
      subst hf
      split at hg
      · rename_i zs hz
        split at hg
        · rename_i hsz
          simp only [Option.some.injEq] at hg
          subst hg
          obtain rfl := intsOf_eq hz
          obtain ⟨u, hu, h1⟩ := repVL1 hR
          obtain ⟨ad, s, rfl, hSa, hcell, hsl⟩ := rep_func h1
          obtain rfl : args = #[.func (.func 101) #[] #[.pointer (some ad)]] := Array.toList_inj.1 hu
          have hsp := cell_spot hcell
          obtain ⟨Bs, o, sp⟩ := ad
          simp only [Addr.mk.injEq] at hsp
          obtain ⟨_, _, rfl⟩ := hsp
          have hBs : Bs < W.heap.size := hS _ hSa
          have hgives : ∀ n, 1 ≤ n → GivesB Fence.wide n Tryz.prog 101 #[.pointer (some ⟨Bs, o, none⟩)] encZ zs W := by
            intro n hn
            rcases slice_cells (enc := fun z : Int => Value.int .i64 z) hsl with ⟨rfl, a, c, rfl⟩ | ⟨hne, b, off, c, rfl, hlc, hSb, hcs⟩
            · exact values_gives_nil Fence.wide n trivial rfl Bs o a c W hBs hcell
            · refine values_gives Fence.wide n trivial rfl hn Bs o b off c zs hsz W hBs hcell (hS _ hSb) fun j hj => ?_
              have hj' : zs[j]? = some zs[j] := List.getElem?_eq_getElem hj
              rw [hj']
              exact hcs j _ hj'
          refine does_calls (enters_of Tryz.func69 (by kernel_rfl) rfl _ _) ((sorted_calls zs hsz _ W hgives).mono ?_)
          rintro e W' ⟨v, rfl, hrow, hnil, hb⟩
          refine ⟨v, rfl, hb, .inl ⟨_, rfl, ?_⟩⟩
          rw [mergeSort_isort] at hrow
          have hil : (isort zs).length = zs.length := (isort_perm zs).length_eq
          show Rep _ W' (.sl ((isort zs).map intP)) v
          rcases hrow.2 with ⟨rfl, h0⟩ | ⟨g, cap, cur, rfl, hbase, hg, r1, r2, r3, r4⟩
          · have : zs = [] := List.eq_nil_of_length_eq_zero h0
            subst this
            exact rep_nil
          · have hgl : g < W'.heap.size := (Array.getElem?_eq_some_iff.1 hg).1
            have hlen : ((isort zs).map intP).length = zs.length := by rw [List.length_map, hil]
            rw [← hlen]
            refine Rep.sl _ (some ⟨g, 0, none⟩) cap 1 (fun i _ => Value.int .i64 ((isort zs)[i]?.getD 0)) (by omega) r2 (fun _ => ⟨_, rfl⟩) (fun x hx => ?_) (fun ad ha i x hx => ?_) (fun i x j y hx hy => ?_)
            · obtain ⟨z, _, rfl⟩ := List.mem_map.1 hx
              rfl
            · obtain rfl : (⟨g, 0, none⟩ : Addr) = ad := by simpa using ha
              refine ⟨⟨.inr hbase, hgl⟩, fun j y hy => ?_⟩
              rw [List.getElem?_map] at hx
              obtain ⟨z, hz', rfl⟩ := Option.map_eq_some_iff.1 hx
              have hj : j = 0 := by
                cases j with
                | zero => rfl
                | succ j => simp [intP, PV.cells] at hy
              subst hj
              have hil2 : i < (isort zs).length := (List.getElem?_eq_some_iff.1 hz').1
              have h4 : (cur.toList.take (zs.length * 1))[i]? = some (encZ z) := by rw [r4, List.getElem?_map, hz']; rfl
              rw [List.getElem?_take, if_pos (by omega)] at h4
              rw [add_none]
              unfold World.cell?
              simp only [hg, Option.isSome_none, Bool.false_eq_true, if_false, hz', Option.getD_some]
              rw [← Array.getElem?_toList]
              simpa using h4
            · rw [List.getElem?_map] at hx
              obtain ⟨z, hz', rfl⟩ := Option.map_eq_some_iff.1 hx
              have hj : j = 0 := by
                cases j with
                | zero => rfl
                | succ j => simp [intP, PV.cells] at hy
              subst hj
              obtain rfl : intP z = y := by simpa [intP, PV.cells] using hy
              simp only [hz', Option.getD_some]
              exact Rep.val _ rfl
        · simp at hg
      · simp at hg
    · simp at hg
  · simp at hg
theorem joinB_eq (sep : List UInt8) : ∀ xs : List (List UInt8), joinB sep xs = Lib.join xs sep
  | [] => rfl
  | [x] => (Lib.join_one x sep).symm
  | x :: y :: t => by
    have := joinB_eq sep (y :: t)
    unfold joinB
    rw [this, Lib.join_cons, Lib.join_cons]
    simp [Lib.joinTail]
theorem join_ok : ∀ ps rs, gJoin ps = some rs → ∀ (S : Nat → Prop) (W : World) (args : Array Value), (∀ b, S b → b < W.heap.size) → RepVL S W ps args.toList →
    Does Tryz.prog 48 args W fun v W' => Below W.heap.size W W' ∧ RepRes (fun b => (S b ∨ W.heap.size ≤ b) ∧ b < W'.heap.size) W' rs v := by
  intro ps rs hg S W args hS hR
  unfold gJoin at hg
  split at hg
  · rename_i xs sep
    split at hg
    · rename_i zs hz
      split at hg
      · rename_i hsz
        simp only [Option.some.injEq] at hg
        subst hg
        obtain rfl := strsOf_eq hz
        obtain ⟨u, v, hu, h1, h2⟩ := repVL2 hR
        obtain rfl := rep_val h2
        rw [joinB_eq] at hsz ⊢
        have hsl : Rep S W (.sl (zs.map strP)) u := h1
        rcases slice_cells (enc := fun z : ByteArray => Value.string z) hsl with ⟨rfl, a, c, rfl⟩ | ⟨hne, b, off, c, rfl, hlc, hSb, hcs⟩
        · obtain rfl : args = #[.slice a 0 c, .string sep] := Array.toList_inj.1 hu
          refine does_calls (enters_of Tryz.func48 (by kernel_rfl) rfl _ _) ((Any.strings_Join_none Tryz.lays156 Tryz.Builder_Extra_156 a c sep W).mono ?_)
          rintro e W' ⟨rfl, rfl⟩
          exact ⟨_, rfl, Below.refl _ _, .inl ⟨_, rfl, Rep.val _ rfl⟩⟩
        · obtain rfl : args = #[.slice (some ⟨b, off, none⟩) zs.length c, .string sep] := Array.toList_inj.1 hu
          refine does_calls (enters_of Tryz.func48 (by kernel_rfl) rfl _ _) ((Any.strings_Join Tryz.lays156 Tryz.Builder_Extra_156 b off c zs sep W hcs (hS _ hSb) hsz.1 hlc hsz.2).mono ?_)
          rintro e W' ⟨rfl, hb⟩
          exact ⟨_, rfl, hb, .inl ⟨_, rfl, Rep.val _ rfl⟩⟩
      · simp at hg
    · simp at hg
  · simp at hg
end Go.Proofs.YtlhjljplfmmoaaaGreatDoor.Ev
