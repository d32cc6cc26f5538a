/- The given functions' contracts, in the evaluator's words: those over the shelf's Itoa, Repeat, Trim, TrimLeft, and FormatUint; all together. -/
import Derived.Lib.SmallJoins
import Derived.Lib.AppendIntMem
import Derived.Test.YtlhjljplfmmoaaaGreatDoorC3
import Derived.Test.YtlhjljplfmmoaaaGreatDoorLayTwo
import Derived.Test.YtlhjljplfmmoaaaGreatDoorU1
import Derived.KernelRfl
set_option linter.unusedSimpArgs false
set_option linter.unusedVariables false
namespace Go.Proofs.YtlhjljplfmmoaaaGreatDoor.Ev
open Go Go.RowKit Go.Shelf Go.Proofs Go.Sort Go.Maps
set_option maxRecDepth 100000
/-- The table of powers, as the library laid it. -/
abbrev PowTab (W : World) : Prop := Lib.TabIs Tryz.prog W "internal/strconv.uint64pow10" .u64 Lib.pow10Tab
theorem given_okT {P : Program} {B : Nat} {w00 : World} {f : FuncId} {g : List PV → Option (List PV)}
    (h : ∀ ps rs, g ps = some rs → ∀ (S : Nat → Prop) (W : World) (args : Array Value), Below B w00 W → (∀ b, S b → b < W.heap.size) → RepVL S W ps args.toList →
      Does P f args W fun v W' => Below W.heap.size W W' ∧ RepRes (fun b => (S b ∨ W.heap.size ≤ b) ∧ b < W'.heap.size) W' rs v) :
    SoundA P B w00 (fun f' ps => if f' = f then g ps else none) := by
  intro f' ps rs he S W args hB hS hR
  dsimp only at he
  split at he
  · rename_i hf; subst hf
    exact h ps rs he S W args hB hS hR
  · simp at he
theorem pow_stays {B : Nat} {w00 W : World} (h : PowTab w00) (hb : Below B w00 W) (hB : w00.heap.size ≤ B) : PowTab W :=
  Go.Joins.tab_stays (g := (Tryz.prog.globalNamed "internal/strconv.uint64pow10").getD 0) (by kernel_rfl) h hb hB
theorem decF_eq : ∀ (k u : Nat), u < 10 ^ (k + 1) → decF (k + 1) u = Lib.decDigits u
  | 0, u, h => by
    unfold decF
    rw [Lib.decDigits, if_pos (by simpa using h), dif_pos (by simpa using h)]
  | k + 1, u, h => by
    unfold decF
    rw [Lib.decDigits]
    by_cases h0 : u < 10
    · rw [if_pos h0, dif_pos h0]
    · rw [if_neg h0, dif_neg h0, decF_eq k (u / 10) (by rw [Nat.pow_succ] at h; omega)]
theorem decL_eq {u : Nat} (h : u < 18446744073709551616) : decL u = Lib.decDigits u := by
  unfold decL
  exact decF_eq 19 u (by omega)
theorem str_res {S : Nat → Prop} {W : World} {s : ByteArray} : RepRes S W [strP s] (.string s) := .inl ⟨_, rfl, Rep.val _ rfl⟩
theorem itoa_ok {B : Nat} {w00 : World} (ht : PowTab w00) (hB : w00.heap.size ≤ B) : ∀ ps rs, gItoa ps = some rs → ∀ (S : Nat → Prop) (W : World) (args : Array Value), Below B w00 W → (∀ b, S b → b < W.heap.size) → RepVL S W ps args.toList →
    Does Tryz.prog 47 args W fun v W' => Below W.heap.size W W' ∧ RepRes (fun b => (S b ∨ W.heap.size ≤ b) ∧ b < W'.heap.size) W' rs v := by
  intro ps rs hg S W args hb hS hR
  unfold gItoa at hg
  have fin : ∀ (n : Int) (l : List UInt8), -9223372036854775808 ≤ n → n ≤ 9223372036854775807 → RepVL S W [.val (.int .i64 n)] args.toList → Lib.itoa n = l → Does Tryz.prog 47 args W fun v W' => Below W.heap.size W W' ∧ RepRes (fun b => (S b ∨ W.heap.size ≤ b) ∧ b < W'.heap.size) W' [.val (.string ⟨l.toArray⟩)] v := by
    intro n l h1 h2 hR hl
    obtain ⟨u, hu, hv⟩ := repVL1 hR
    obtain rfl := rep_val hv
    obtain rfl : args = #[.int .i64 n] := Array.toList_inj.1 hu
    refine does_calls (enters_of Tryz.func47 (by kernel_rfl) rfl _ _) ((Any.strconv_Itoa Tryz.laysM171 n h1 h2 W (pow_stays ht hb hB)).mono ?_)
    rintro e W' ⟨rfl, k, os, rfl⟩
    refine ⟨_, rfl, Lib.below_grow _ _ (Nat.le_refl _) _ _, ?_⟩
    rw [hl]
    exact str_res
  split at hg
  · rename_i k
    split at hg
    · rename_i hc
      simp only [Option.some.injEq] at hg
      subst hg
      exact fin _ _ (by simp) (by simp; omega) hR (by unfold Lib.itoa; rw [if_neg (by simp), decL_eq (by omega)]; rfl)
    · simp at hg
  · rename_i k
    split at hg
    · rename_i hc
      simp only [Option.some.injEq] at hg
      subst hg
      exact fin _ _ (by rw [Int.negSucc_eq]; omega) (by rw [Int.negSucc_eq]; omega) hR (by unfold Lib.itoa; rw [if_pos (by rw [Int.negSucc_eq]; omega), decL_eq (by omega)]; rfl)
    · simp at hg
  · simp at hg
theorem fmtU_ok {B : Nat} {w00 : World} (ht : PowTab w00) (hB : w00.heap.size ≤ B) : ∀ ps rs, gFmtU ps = some rs → ∀ (S : Nat → Prop) (W : World) (args : Array Value), Below B w00 W → (∀ b, S b → b < W.heap.size) → RepVL S W ps args.toList →
    Does Tryz.prog 106 args W fun v W' => Below W.heap.size W W' ∧ RepRes (fun b => (S b ∨ W.heap.size ≤ b) ∧ b < W'.heap.size) W' rs v := by
  intro ps rs hg S W args hb hS hR
  unfold gFmtU at hg
  split at hg
  · rename_i k b
    split at hg
    · rename_i hc
      obtain ⟨rfl, hc1⟩ := hc
      simp only [Option.some.injEq] at hg
      subst hg
      obtain ⟨u, v, hu, h1, h2⟩ := repVL2 hR
      obtain rfl := rep_val h1
      obtain rfl := rep_val h2
      obtain rfl : args = #[.int .u64 k, .int .i64 10] := Array.toList_inj.1 hu
      refine does_calls (enters_of Tryz.func106 (by kernel_rfl) rfl _ _) ((Tryz.FormatUint k (by omega) W (pow_stays ht hb hB)).mono ?_)
      rintro e W' ⟨rfl, q, os, rfl⟩
      refine ⟨_, rfl, Lib.below_grow _ _ (Nat.le_refl _) _ _, ?_⟩
      rw [decL_eq (by omega)]
      exact str_res
    · simp at hg
  · simp at hg
theorem repeat_ok : ∀ ps rs, gRepeat ps = some rs → ∀ (S : Nat → Prop) (W : World) (args : Array Value), (∀ b, S b → b < W.heap.size) → RepVL S W ps args.toList →
    Does Tryz.prog 74 args W fun v W' => Below W.heap.size W W' ∧ RepRes (fun b => (S b ∨ W.heap.size ≤ b) ∧ b < W'.heap.size) W' rs v := by
  intro ps rs hg S W args hS hR
  unfold gRepeat at hg
  split at hg
  · rename_i s k
    split at hg
    · rename_i hc
      obtain ⟨hc2, hc3⟩ := hc
      simp only [Option.some.injEq] at hg
      subst hg
      obtain ⟨u, v, hu, h1, h2⟩ := repVL2 hR
      obtain rfl := rep_val h1
      obtain rfl := rep_val h2
      obtain rfl : args = #[.string s, .int .i64 k] := Array.toList_inj.1 hu
      refine does_calls (enters_of Tryz.func74 (by kernel_rfl) rfl _ _) ((Any.strings_Repeat Tryz.lays105 Tryz.Builder_Extra_105 s k W (by omega) hc3).mono ?_)
      rintro e W' ⟨rfl, hb⟩
      exact ⟨_, rfl, hb, str_res⟩
    · simp at hg
  · simp at hg
theorem low_ascii {l : List UInt8} (h : lowB l = true) : ∀ (j : Nat) (b : UInt8), l[j]? = some b → b.toNat < 128 := fun j b hb => by
  have := List.all_eq_true.1 h b (List.mem_of_getElem? hb)
  simpa using this
theorem trim_ok : ∀ ps rs, gTrim ps = some rs → ∀ (S : Nat → Prop) (W : World) (args : Array Value), (∀ b, S b → b < W.heap.size) → RepVL S W ps args.toList →
    Does Tryz.prog 115 args W fun v W' => Below W.heap.size W W' ∧ RepRes (fun b => (S b ∨ W.heap.size ≤ b) ∧ b < W'.heap.size) W' rs v := by
  intro ps rs hg S W args hS hR
  unfold gTrim at hg
  split at hg
  · rename_i s cs
    split at hg
    · rename_i hc
      obtain ⟨hc1, hc2, hc3⟩ := hc
      simp only [Option.some.injEq] at hg
      subst hg
      obtain ⟨u, v, hu, h1, h2⟩ := repVL2 hR
      obtain rfl := rep_val h1
      obtain rfl := rep_val h2
      obtain rfl : args = #[.string s, .string cs] := Array.toList_inj.1 hu
      refine does_calls (enters_of Tryz.func115 (by kernel_rfl) rfl _ _) ((Any.strings_Trim_laid Tryz.lays160 (by kernel_rfl) s cs W hc1 hc2 (low_ascii hc3)).mono ?_)
      rintro e W' ⟨rfl, hb⟩
      exact ⟨_, rfl, hb, str_res⟩
    · simp at hg
  · simp at hg
theorem trimLeft_ok : ∀ ps rs, gTrimLeft ps = some rs → ∀ (S : Nat → Prop) (W : World) (args : Array Value), (∀ b, S b → b < W.heap.size) → RepVL S W ps args.toList →
    Does Tryz.prog 82 args W fun v W' => Below W.heap.size W W' ∧ RepRes (fun b => (S b ∨ W.heap.size ≤ b) ∧ b < W'.heap.size) W' rs v := by
  intro ps rs hg S W args hS hR
  unfold gTrimLeft at hg
  split at hg
  · rename_i s cs
    split at hg
    · rename_i hc
      obtain ⟨hc2, hc3⟩ := hc
      simp only [Option.some.injEq] at hg
      subst hg
      obtain ⟨u, v, hu, h1, h2⟩ := repVL2 hR
      obtain rfl := rep_val h1
      obtain rfl := rep_val h2
      obtain rfl : args = #[.string s, .string cs] := Array.toList_inj.1 hu
      refine does_calls (enters_of Tryz.func82 (by kernel_rfl) rfl _ _) ((Any.strings_TrimLeft_laid Tryz.lays161 (by kernel_rfl) s cs W hc2 (low_ascii hc3)).mono ?_)
      rintro e W' ⟨rfl, hb⟩
      exact ⟨_, rfl, hb, str_res⟩
    · simp at hg
  · simp at hg
theorem len32_ok : ∀ ps rs, gLen32 ps = some rs → ∀ (S : Nat → Prop) (W : World) (args : Array Value), (∀ b, S b → b < W.heap.size) → RepVL S W ps args.toList →
    Does Tryz.prog 127 args W fun v W' => Below W.heap.size W W' ∧ RepRes (fun b => (S b ∨ W.heap.size ≤ b) ∧ b < W'.heap.size) W' rs v := by
  intro ps rs hg S W args hS hR
  unfold gLen32 at hg
  split at hg
  · rename_i x
    split at hg
    · rename_i hc
      simp only [Option.some.injEq] at hg
      subst hg
      obtain ⟨u, hu, h1⟩ := repVL1 hR
      obtain rfl := rep_val h1
      obtain rfl : args = #[.int .u32 x] := Array.toList_inj.1 hu
      refine does_calls (enters_of Tryz.func127 (by kernel_rfl) rfl _ _) ((Any.bits_Len32 Tryz.lays128 x W (by omega) (by omega)).mono ?_)
      rintro e W' ⟨rfl, rfl⟩
      exact ⟨_, rfl, Below.refl _ _, .inl ⟨_, rfl, Rep.val _ rfl⟩⟩
    · simp at hg
  · simp at hg
theorem named_ok : Tryz.prog.funcs.all (fun fn => !(fn.name == "runtime.NumGoroutine")) = true := by kernel_rfl
theorem if_given {B : Nat} {w00 : World} {f f' : FuncId} {g0 g : List PV → Option (List PV)} {r : Option (List PV → Option (List PV))} (h0 : SoundA Tryz.prog B w00 (fun f2 ps => if f2 = f' then g0 ps else none))
    (hr : r = some g → SoundA Tryz.prog B w00 (fun f2 ps => if f2 = f then g ps else none)) (h : (if f = f' then some g0 else r) = some g) : SoundA Tryz.prog B w00 (fun f2 ps => if f2 = f then g ps else none) := by
  split at h
  · rename_i hf; subst hf; cases h; exact h0
  · exact hr h
theorem tab_ok {B : Nat} {w00 : World} (ht : PowTab w00) (hB : w00.heap.size ≤ B) : GivenOk Tryz.prog B w00 tab where
  fns := by
    intro f g h
    change tabF f = some g at h
    unfold tabF at h
    refine if_given (given_ok sorted_ok) (fun h => ?_) h
    refine if_given (given_ok values_ok) (fun h => ?_) h
    refine if_given (given_ok join_ok) (fun h => ?_) h
    refine if_given (given_ok count_ok) (fun h => ?_) h
    refine if_given (given_ok indexByte_ok) (fun h => ?_) h
    refine if_given (given_okT (itoa_ok ht hB)) (fun h => ?_) h
    refine if_given (given_okT (fmtU_ok ht hB)) (fun h => ?_) h
    refine if_given (given_ok repeat_ok) (fun h => ?_) h
    refine if_given (given_ok trim_ok) (fun h => ?_) h
    refine if_given (given_ok trimLeft_ok) (fun h => ?_) h
    refine if_given (given_ok len32_ok) (fun h => ?_) h
    simp at h
  named := by
    intro f fn hf
    have := named_ok
    rw [Array.all_eq_true] at this
    obtain ⟨hlt, he⟩ := Array.getElem?_eq_some_iff.1 hf
    have h1 := this f hlt
    rw [he] at h1
    simpa using h1
end Go.Proofs.YtlhjljplfmmoaaaGreatDoor.Ev
