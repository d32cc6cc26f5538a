/- nat.Parse and what it calls: what they compute. -/
import Derived.Test.YtlhjljplfmmoaaaGreatDoorSp
import Derived.Test.YtlhjljplfmmoaaaGreatDoorNA
namespace Go.Proofs.YtlhjljplfmmoaaaGreatDoor.Ev
open Go
set_option linter.unusedSimpArgs false
set_option linter.unusedVariables false
set_option maxRecDepth 10000
set_option maxHeartbeats 4000000
open Nb
def lp (x : Nat) : PV := .val (.int .u32 (x : Int))
def lim (l : List Nat) : List PV := l.map lp
theorem lim_len (l : List Nat) : (lim l).length = l.length := by simp [lim]
theorem sized_lim (l : List Nat) : sizedAll 1 (lim l) = true := by
  induction l with
  | nil => rfl
  | cons x t ih => simp only [lim, List.map_cons, sizedAll] at *; simp [ih, lp]
theorem lim_get {l : List Nat} {i x : Nat} (h : l[i]? = some x) : (lim l)[i]? = some (lp x) := by simp [lim, h]
theorem lim_snoc (l : List Nat) (x : Nat) : lim l ++ [lp x] = lim (l ++ [x]) := by simp [lim]
theorem lim_set (l : List Nat) (i x : Nat) : (lim l).set i (lp x) = lim (l.set i x) := by simp [lim, List.map_set]
theorem lim_zero (k : Nat) : List.replicate k (lp 0) = lim (List.replicate k 0) := by simp [lim]
theorem sizeT_u32 : sizeT Tryz.prog 125 = some 1 := by kernel_rfl
theorem bytesT_u32 : bytesT Tryz.prog 125 = some 4 := by kernel_rfl
theorem zeroT_u32 : zeroT Tryz.prog 125 = some (.val (.int .u32 0)) := by kernel_rfl
theorem elemT_nat : elemT Tryz.prog 62 = some 125 := by kernel_rfl
theorem elemT_u32s : elemT Tryz.prog 61 = some 125 := by kernel_rfl
theorem nrfl {α : Type} {a b : α} (h : a = b) : a = b ∧ True := ⟨h, trivial⟩
theorem und_u32 : Tryz.prog.underlying 125 = some (.int .u32) := (nrfl Tryz.underlying125).1
theorem und_nat : Tryz.prog.underlying 62 = some (.slice 125) := (nrfl Tryz.underlying62).1
theorem und_u32s : Tryz.prog.underlying 61 = some (.slice 125) := (nrfl Tryz.underlying61).1
theorem und_u64 : Tryz.prog.underlying 97 = some (.int .u64) := (nrfl Tryz.underlying97).1
theorem und_uint : Tryz.prog.underlying 45 = some (.int .u64) := (nrfl Tryz.underlying45).1
attribute [simp] sizeT_u32 bytesT_u32 zeroT_u32 elemT_nat elemT_u32s und_u32 und_nat und_u32s und_u64 und_uint lim_len sized_lim
theorem wrap_u64 {n : Int} (h1 : 0 ≤ n) (h2 : n < 18446744073709551616) : IntKind.u64.wrap n = n := by
  simp only [IntKind.wrap, IntKind.bits, IntKind.signed, Bool.false_and, Bool.false_eq_true, if_false]
  omega
theorem wrap_u32 {n : Int} (h1 : 0 ≤ n) (h2 : n < 4294967296) : IntKind.u32.wrap n = n := by
  simp only [IntKind.wrap, IntKind.bits, IntKind.signed, Bool.false_and, Bool.false_eq_true, if_false]
  omega
theorem wrap_u32_mod (n : Int) : IntKind.u32.wrap n = n % 4294967296 := by
  simp only [IntKind.wrap, IntKind.bits, IntKind.signed, Bool.false_and, Bool.false_eq_true, if_false]
  omega
theorem wrap_u64_mod (n : Int) : IntKind.u64.wrap n = n % 18446744073709551616 := by
  simp only [IntKind.wrap, IntKind.bits, IntKind.signed, Bool.false_and, Bool.false_eq_true, if_false]
  omega
theorem and_low (x : Nat) (h : x < 18446744073709551616) : (((BitVec.ofInt 64 (x : Int) &&& BitVec.ofInt 64 4294967295).toNat : Nat) : Int) = ((x % B : Nat) : Int) := by
  have h1 : (BitVec.ofInt 64 (x : Int)).toNat = x := by simp; omega
  have h2 : (BitVec.ofInt 64 4294967295).toNat = 2 ^ 32 - 1 := by decide
  rw [BitVec.toNat_and, h1, h2, Nat.and_two_pow_sub_one_eq_mod]
  rfl
theorem shr_low (x : Nat) : ((x : Int).fdiv (2 ^ 32)) = ((x / B : Nat) : Int) := by
  rw [Int.fdiv_eq_ediv_of_nonneg _ (by decide)]
  simp [B]
def mapN (k : Nat) (a : List (Nat × TV)) : List (Nat × TV) := a.map fun p => (p.1, map3 (kill1 k) p.2)
theorem look_mapN (k i : Nat) : ∀ a : List (Nat × TV), look (mapN k a) i = map3 (kill1 k) (look a i)
  | [] => rfl
  | (j, v) :: t => by
    show (if i = j then map3 (kill1 k) v else look (mapN k t) i) = map3 (kill1 k) (if i = j then v else look t i)
    rw [look_mapN k i t]
    split <;> rfl
theorem map_frameN (N k : Nat) (a : List (Nat × TV)) : List.map (map3 (kill1 k)) (frameOf N a) = frameOf N (mapN k a) := by
  unfold frameOf
  rw [List.map_map]
  apply List.map_congr_left
  intro i _
  exact (look_mapN k i a).symm
attribute [simp] look_mapN map_frameN
theorem lowE {c lo : Nat} (h : c % B = lo) : c % 2 ^ IntKind.u64.bits &&& 4294967295 % 2 ^ IntKind.u64.bits = lo := by
  show c % 2 ^ 64 &&& 4294967295 = lo
  have := Nat.and_two_pow_sub_one_eq_mod (c % 2 ^ 64) 32
  simp only [show 2 ^ 32 - 1 = 4294967295 by decide] at this
  rw [this, ← h]
  unfold B
  omega
theorem highE {c hi : Nat} (h : c / B = hi) : (c : Int).fdiv (2 ^ min 32 IntKind.u64.bits) = (hi : Int) := by
  rw [show min 32 IntKind.u64.bits = 32 by decide, shr_low, h]
theorem w64 {x : Nat} (h : x < 18446744073709551616) : IntKind.u64.wrap (x : Int) = x := wrap_u64 (by omega) (by omega)
theorem w32 {x : Nat} (h : x < B) : IntKind.u32.wrap (x : Int) = x := wrap_u32 (by omega) (by unfold B at h; omega)
theorem len_ofN_le {a : List Nat} (h : LB a) : (ofN (val a)).length ≤ a.length := length_ofN_le.2 (val_lt h)
def mapQ (k : Nat) (xs : List PV) (a : List (Nat × TV)) : List (Nat × TV) := a.map fun p => (p.1, map3 (seal1 k xs) p.2)
theorem look_mapQ (k i : Nat) (xs : List PV) : ∀ a : List (Nat × TV), look (mapQ k xs a) i = map3 (seal1 k xs) (look a i)
  | [] => rfl
  | (j, v) :: t => by
    show (if i = j then map3 (seal1 k xs) v else look (mapQ k xs t) i) = map3 (seal1 k xs) (if i = j then v else look t i)
    rw [look_mapQ k i xs t]
    split <;> rfl
theorem map_frameQ (N k : Nat) (xs : List PV) (a : List (Nat × TV)) : List.map (map3 (seal1 k xs)) (frameOf N a) = frameOf N (mapQ k xs a) := by
  unfold frameOf
  rw [List.map_map]
  apply List.map_congr_left
  intro i _
  exact (look_mapQ k i xs a).symm
attribute [simp] look_mapQ map_frameQ St.close seal1
theorem evMake_nat {st : St} {key d : Nat} {n m : Int} (h1 : 0 ≤ n) (h2 : n ≤ m) (h3 : m ≤ 70368744177664) :
    evMake Tryz.prog st key d 62 (some (.val (.int .i64 n))) (some (.val (.int .i64 m))) = some ((st.new key (.row 125 (List.replicate n.toNat (lp 0)))).put (some d) (.row key 0 n.toNat)) := by
  have hz : zeroPV Tryz.prog st.so 125 = some (lp 0) := by unfold zeroPV; rw [zeroT_u32]; rfl
  have hr : rowSize Tryz.prog 125 = some 1 := by unfold rowSize; rw [sizeT_u32]; rfl
  unfold evMake
  simp only [elemT_nat, bytesT_u32, hz, hr]
  have h4 : m * ((4 : Nat) : Int) ≤ 281474976710656 := by omega
  exact if_pos ⟨rfl, h1, h2, by omega, h4⟩
theorem stepN {R : Type} {P : Program} {D : Dat} {base n : Nat} {F : St → Option R} (st : St) (ops : Array Oper) (rest : List Oper) (k : Kn) : stepK P D base n F (some st) ops rest k = opsK P D base n F ops rest st k := (nrfl (step_some st ops rest k)).1
theorem stepDN {R : Type} {P : Program} {D : Dat} {base n : Nat} {F : St → Option R} (st : St) (ops : Array Oper) (rest : List Oper) (k : Kn) : stepD P D base n F (some st) ops rest k = opsD P D base n F ops rest st k := (nrfl (stepD_some st ops rest k)).1
end Go.Proofs.YtlhjljplfmmoaaaGreatDoor.Ev
namespace Go.Proofs.YtlhjljplfmmoaaaGreatDoor.Ev
open Go
set_option linter.unusedSimpArgs false
set_option linter.unusedVariables false
set_option maxRecDepth 10000
set_option maxHeartbeats 4000000
open Nb
theorem bound_int {l : List Nat} {i : Nat} (h : i < l.length) : ((i : Int) < (l.length : Int)) := by omega
theorem take_lim (l : List Nat) : List.take l.length (lim l) = lim l := List.take_of_length_le (by simp)
attribute [simp] take_lim
theorem trim_n (n : Nat) (a : List Nat) (hb : LB a) (hl : a.length ≤ 9223372036854775806) (hn : a.length ≤ n) :
    (ev Tryz.prog tab (n + 1)).callA 110 [.sl (lim a)] = some [.sl (lim (ofN (val a)))] := by
  rw [callA_fn rfl Tryz.func110 rfl rfl rfl]
  simp [-frame, -getElem?_pos, Tryz.f110]
  refine loop_rule (fun d st => ∃ (k : Nat) (A : List (Nat × TV)), st = { tm := frameOf 22 A, sus := [], so := [] } ∧ look A 3 = .val (.int .i64 k) ∧ look A 0 = .sl (lim a) ∧ k = d ∧ k ≤ a.length ∧ val (a.take k) = val a) ?_ _ a.length _ (by omega) ⟨a.length, _, rfl, by simp, by simp, rfl, by omega, by simp⟩
  rintro d st m ⟨k, A, rfl, h3, h0, rfl, hk, hv⟩ ih
  have hkn : (k : Int).toNat = k := by simp
  have fin : k = 0 ∨ (∃ x, a[k - 1]? = some x ∧ x ≠ 0) → List.take k (lim a) = lim (ofN (val a)) := fun h => by
    rw [← trim_fin hb hk hv h]; simp [lim, List.map_take]
  by_cases h1 : k = 0
  · subst h1
    have hf := fin (.inl rfl)
    simp at hf
    simp [-frame, -getElem?_pos, h3, h0, ← hf]
  · have hw : IntKind.i64.wrap ((k : Int) - 1) = ((k - 1 : Nat) : Int) := by rw [wrap_i64 (by omega) (by omega)]; omega
    obtain ⟨x, hx⟩ : ∃ x, a[k - 1]? = some x := ⟨a[k - 1], by simp⟩
    have hx' := lim_get hx
    have hpos : 0 < k := by omega
    have hlt : k - 1 < a.length := by omega
    have hle : (k : Int) ≤ (a.length : Int) := by omega
    by_cases h2 : x = 0
    · subst h2
      have hv' := trim_step hpos hv hx
      simp [-frame, -getElem?_pos, h3, h0, hpos, hw, hx', hlt, lp]
      exact ih _ _ (by omega) ⟨k - 1, _, rfl, by simp, by simp [h0], rfl, by omega, hv'⟩
    · have hf := fin (.inr ⟨x, hx, h2⟩)
      simp [-frame, -getElem?_pos, h3, h0, hpos, hw, hx', hlt, lp, h2, hk, hf]
theorem of_n (n x : Nat) (hx : x < 18446744073709551616) (hn : 2 ≤ n) :
    (ev Tryz.prog tab (n + 2)).callA 75 [.val (.int .u64 x)] = some [.sl (lim (ofN x))] := by
  have hB : B = 4294967296 := rfl
  obtain ⟨lo, hlo⟩ : ∃ lo, x % B = lo := ⟨_, rfl⟩
  obtain ⟨hi, hhi⟩ : ∃ hi, x / B = hi := ⟨_, rfl⟩
  have h1 : lo < B := by rw [← hlo]; exact Nat.mod_lt _ B_pos
  have h2 : hi < B := by rw [← hhi]; unfold B; omega
  have hv : val [lo, hi] = x := by simp only [val, Nat.mul_zero, Nat.add_zero]; rw [← hlo, ← hhi]; exact Nat.mod_add_div _ _
  have ht := trim_n n [lo, hi] (LB_cons h1 (LB_cons h2 LB_nil)) (by simp) (by simp; omega)
  rw [hv] at ht
  simp only [lim, lp, List.map_cons, List.map_nil] at ht
  rw [callA_fn rfl Tryz.func75 rfl rfl rfl]
  simp [-frame, -getElem?_pos, Tryz.f75, lowE hlo, highE hhi, w64 (show lo < 18446744073709551616 by omega), w32 h1, w32 h2, ht, lim]
theorem norm_n (n : Nat) (a : List Nat) (hb : LB a) (hl : a.length ≤ 35184372088832) (hn : a.length ≤ n) :
    (ev Tryz.prog tab (n + 2)).callA 104 [.sl (lim a)] = some [.sl (lim (ofN (val a)))] := by
  have ht := trim_n n a hb (by omega) hn
  have hle := len_ofN_le hb
  rw [callA_fn rfl Tryz.func104 rfl rfl rfl]
  simp [-frame, -getElem?_pos, Tryz.f104, ht, show (ofN (val a)).length ≤ 9223372036854775807 by omega, show (ofN (val a)).length * 4 ≤ 140737488355328 by omega]
end Go.Proofs.YtlhjljplfmmoaaaGreatDoor.Ev
namespace Go.Proofs.YtlhjljplfmmoaaaGreatDoor.Ev
open Go
set_option linter.unusedSimpArgs false
set_option linter.unusedVariables false
set_option maxRecDepth 10000
set_option maxHeartbeats 4000000
open Nb
theorem scale_fin {a out : List Nat} {b p c : Nat} (hb : LB out) (hlen : out.length = a.length) (hc : c < B) (hv : val out + B ^ a.length * c = val a * b + p) (h3 : 1 ≤ b) (ht : a = [] ∨ B ^ (a.length - 1) ≤ val a) :
    (if 0 < c then out ++ [c] else out) = ofN (val a * b + p) := by
  have hle : val a * 1 ≤ val a * b := Nat.mul_le_mul_left _ h3
  split
  · rename_i h0
    have h1 : val (out ++ [c]) = val a * b + p := by rw [val_snoc, hlen]; exact hv
    rw [← h1]
    apply eq_ofN (hb.snoc hc)
    right
    rw [h1, ← hv]
    simp only [List.length_append, List.length_cons, List.length_nil, Nat.add_sub_cancel, hlen]
    have : B ^ a.length * 1 ≤ B ^ a.length * c := Nat.mul_le_mul_left _ h0
    omega
  · rename_i h0
    obtain rfl : c = 0 := by omega
    have h1 : val out = val a * b + p := by simpa using hv
    rw [← h1]
    apply eq_ofN hb
    rcases ht with rfl | ht
    · left; exact List.eq_nil_of_length_eq_zero (by simpa using hlen)
    · right
      rw [h1, hlen]; omega
theorem carry_lt {c x b : Nat} (hc : c < B) (hx : x < B) (hb : b < B) : c + x * b < B * B := by
  have : x * b ≤ (B - 1) * (B - 1) := Nat.mul_le_mul (by omega) (by omega)
  have h2 : (B - 1) * (B - 1) + B + (B - 1) = B * B := by decide
  omega
theorem div_lt_B {c : Nat} (h : c < B * B) : c / B < B := Nat.div_lt_of_lt_mul h
theorem BB_eq : B * B = 18446744073709551616 := by decide
theorem scale_n (n : Nat) (a : List Nat) (b p : Nat) (hb : LB a) (hl : a.length ≤ 35184372088830) (hn : a.length ≤ n) (h1 : b < B) (h2 : p < B) (h3 : 1 ≤ b) (ht : a = [] ∨ B ^ (a.length - 1) ≤ val a) :
    (ev Tryz.prog tab (n + 2)).callA 120 [.sl (lim a), .val (.int .u32 b), .val (.int .u32 p)] = some [.sl (lim (ofN (val a * b + p)))] := by
  have hB : B = 4294967296 := rfl
  have hl1 : IntKind.i64.wrap ((a.length : Int) + 1) = (a.length : Int) + 1 := by rw [wrap_i64 (by omega) (by omega)]
  have hpw := w64 (show p < 18446744073709551616 by omega)
  have hbw := w64 (show b < 18446744073709551616 by omega)
  rw [callA_fn rfl Tryz.func120 rfl rfl rfl]
  simp [-frame, -getElem?_pos, -evMake, Tryz.f120]
  simp only [hl1]
  rw [evMake_nat (by omega) (by omega) (by omega)]
  simp [-frame, -getElem?_pos, hpw]
  refine loop_rule (fun d st => ∃ (i c : Nat) (out : List Nat) (so : Store) (A : List (Nat × TV)), st = { tm := frameOf 47 A, sus := [], so := so } ∧ look A 1 = .val (.int .u32 b) ∧ look A 8 = .val (.int .u64 c) ∧ look A 17 = .sl (lim a) ∧ look A 18 = .val (.int .i64 a.length) ∧ look A 19 = .val (.int .i64 i) ∧ d = a.length - i ∧ i ≤ a.length ∧ LB out ∧ out.length = i ∧ c < B ∧ val out + B ^ i * c = val (a.take i) * b + p ∧
    ((so = [(14, .row 125 [])] ∧ look A 7 = .row 14 0 0 ∧ out = []) ∨ ∃ y, so = [(34, .row 125 [y]), (35, .row 125 (lim out))] ∧ look A 7 = .row 35 0 out.length)) ?_ _ a.length _ (by omega) ⟨0, p, [], _, _, rfl, by simp, by simp, by simp, by simp, by simp, rfl, by omega, LB_nil, rfl, h2, by simp [val], .inl ⟨rfl, by simp, rfl⟩⟩
  rintro d st m ⟨i, c, out, so, A, rfl, k1, k8, k17, k18, k19, rfl, hi, hbo, hlo, hc, hv, hso⟩ ih
  by_cases hlt : i < a.length
  · obtain ⟨x, hx⟩ : ∃ x, a[i]? = some x := ⟨a[i], by simp⟩
    have hxB := hb.get hx
    have hx' := lim_get hx
    have hw := wrap_succ hlt (by omega)
    have hd : decide ((i : Int) < a.length) = true := by simp [hlt]
    obtain ⟨s, hs⟩ : ∃ s, s = c + x * b := ⟨_, rfl⟩
    have hsB : s < B * B := by rw [hs]; exact carry_lt hc hxB h1
    have hs64 : s < 18446744073709551616 := by rw [← BB_eq]; exact hsB
    have hxb : x * b < 18446744073709551616 := by omega
    have e1 := w64 (show x < 18446744073709551616 by omega)
    have e2 : IntKind.u64.wrap ((x : Int) * (b : Int)) = (x : Int) * b := by have := w64 hxb; simpa using this
    have e3 : IntKind.u64.wrap ((c : Int) + (x : Int) * b) = (s : Int) := by have := w64 hs64; rw [← this, hs]; simp
    obtain ⟨lo, hlow⟩ : ∃ lo, s % B = lo := ⟨_, rfl⟩
    obtain ⟨hi', hhigh⟩ : ∃ hi, s / B = hi := ⟨_, rfl⟩
    have hloB : lo < B := by rw [← hlow]; exact Nat.mod_lt _ B_pos
    have hhiB : hi' < B := by rw [← hhigh]; exact div_lt_B hsB
    have e4 := w64 (show lo < 18446744073709551616 by omega)
    have e5 := w32 hloB
    have e6 := lowE hlow
    have e7 := highE hhigh
    have hv' : val (out ++ [lo]) + B ^ (i + 1) * hi' = val (a.take (i + 1)) * b + p := by
      rw [val_snoc, hlo, val_take_succ hx, ← hlow, ← hhigh]
      refine column (d := _) ?_
      rw [hs, Nat.mul_add, ← Nat.add_assoc, hv, Nat.add_mul, Nat.mul_assoc]
      omega
    have l1 : out.length ≤ 9223372036854775806 := by omega
    have l2 : out.length + 1 ≤ 9223372036854775807 := by omega
    have l3 : (out.length + 1) * 4 ≤ 140737488355328 := by omega
    rcases hso with ⟨rfl, k7, rfl⟩ | ⟨y, rfl, k7⟩
    · simp [-frame, -getElem?_pos, k1, k7, k8, k17, k18, k19, hd, hlt, hw, hx', lp, e1, e2, e3, e4, e5, e6, e7, hbw]
      exact ih _ _ (by omega) ⟨i + 1, hi', [] ++ [lo], _, _, rfl, by simp [k1], by simp, by simp [k17], by simp [k18], by simp, rfl, by omega, hbo.snoc hloB, by simp at hlo; simp [← hlo], hhiB, hv', .inr ⟨lp lo, by simp [lim, lp], by simp⟩⟩
    · simp [-frame, -getElem?_pos, k1, k7, k8, k17, k18, k19, hd, hlt, hw, hx', lp, e1, e2, e3, e4, e5, e6, e7, hbw, l1, l2, l3]
      exact ih _ _ (by omega) ⟨i + 1, hi', out ++ [lo], _, _, rfl, by simp [k1], by simp, by simp [k17], by simp [k18], by simp, rfl, by omega, hbo.snoc hloB, by simp [hlo], hhiB, hv', .inr ⟨lp lo, by simp [lim, lp], by simp⟩⟩
  · obtain rfl : i = a.length := by omega
    rw [List.take_length] at hv
    have hf := scale_fin hbo hlo hc hv h3 ht
    have hd : decide ((a.length : Int) < a.length) = false := by simp
    have e8 := w32 hc
    have l1 : out.length ≤ 9223372036854775806 := by omega
    have l2 : out.length + 1 ≤ 9223372036854775807 := by omega
    have l3 : (out.length + 1) * 4 ≤ 140737488355328 := by omega
    by_cases h0 : 0 < c
    · rw [if_pos h0] at hf
      rcases hso with ⟨rfl, k7, rfl⟩ | ⟨y, rfl, k7⟩
      · simp [-frame, -getElem?_pos, k1, k7, k8, k17, k18, k19, hd, h0, e8, ← hf]
        simp [lim, lp]
      · simp [-frame, -getElem?_pos, k1, k7, k8, k17, k18, k19, hd, h0, e8, l1, l2, l3, ← hf]
        simp [lim, lp, List.take_of_length_le]
    · rw [if_neg h0] at hf
      rcases hso with ⟨rfl, k7, rfl⟩ | ⟨y, rfl, k7⟩
      · simp [-frame, -getElem?_pos, k1, k7, k8, k17, k18, k19, hd, h0, e8, ← hf]
        simp [lim, lp]
      · simp [-frame, -getElem?_pos, k1, k7, k8, k17, k18, k19, hd, h0, e8, l1, l2, l3, ← hf]
end Go.Proofs.YtlhjljplfmmoaaaGreatDoor.Ev
namespace Go.Proofs.YtlhjljplfmmoaaaGreatDoor.Ev
open Go
set_option linter.unusedSimpArgs false
set_option linter.unusedVariables false
set_option maxRecDepth 10000
set_option maxHeartbeats 4000000
open Nb
theorem ba_toList (s : ByteArray) : s.toList = s.data.toList := by
  obtain ⟨d⟩ := s
  have : ∀ (k i : Nat) (r : List UInt8), d.size - i = k → ByteArray.toList.loop ⟨d⟩ i r = r.reverse ++ d.toList.drop i := by
    intro k
    induction k with
    | zero =>
      intro i r h
      unfold ByteArray.toList.loop
      rw [if_neg (by show ¬ i < d.size; omega), List.drop_eq_nil_of_le (by simp; omega), List.append_nil]
    | succ k ih =>
      intro i r h
      unfold ByteArray.toList.loop
      rw [if_pos (by show i < d.size; omega), ih (i + 1) _ (by omega)]
      have hi : i < d.toList.length := by simp; omega
      rw [List.reverse_cons, List.append_assoc, List.drop_eq_getElem_cons hi]
      congr 1
      show [ByteArray.get! ⟨d⟩ i] ++ _ = _
      have : ByteArray.get! ⟨d⟩ i = d.toList[i] := by
        show d[i]! = _
        rw [getElem!_pos d i (by omega)]
        simp
      rw [this]; rfl
  unfold ByteArray.toList
  rw [this d.size 0 [] (by omega)]
  simp
def digC (c : UInt8) : Bool := decide (48 ≤ c.toNat) && decide (c.toNat ≤ 57)
def decV (l : List UInt8) : Nat := l.foldl (fun v c => v * 10 + (c.toNat - 48)) 0
theorem decV_snoc (l : List UInt8) (c : UInt8) : decV (l ++ [c]) = decV l * 10 + (c.toNat - 48) := by simp [decV]
theorem decV_take {l : List UInt8} {i : Nat} {c : UInt8} (hc : l[i]? = some c) : decV (l.take (i + 1)) = decV (l.take i) * 10 + (c.toNat - 48) := by
  rw [List.take_add_one, hc]; exact decV_snoc _ c
theorem decV_lt : ∀ (l : List UInt8), l.all digC = true → decV l < 10 ^ l.length := by
  intro l h
  have key : ∀ i, i ≤ l.length → decV (l.take i) < 10 ^ i := by
    intro i
    induction i with
    | zero => intro _; simp [decV]
    | succ i ih =>
      intro hi
      obtain ⟨c, hc⟩ : ∃ c, l[i]? = some c := ⟨l[i], by simp⟩
      have hd : digC c = true := List.all_eq_true.1 h c (List.mem_of_getElem? hc)
      simp [digC] at hd
      have h1 := ih (by omega)
      rw [decV_take hc, Nat.pow_succ]
      omega
  have := key l.length (Nat.le_refl _)
  rwa [List.take_length] at this

def zeroH : List UInt8 → Bool
  | c :: d :: _ => decide (c.toNat = 48)
  | _ => false
def parseN (l : List UInt8) : List Nat × Int :=
  if l.isEmpty || zeroH l then ([], 2) else if l.all digC = false then ([], 2) else if 400 < l.length then ([], 5) else (ofN (decV l), 0)
theorem parse_n (n : Nat) (s : ByteArray) (l : List UInt8) (hl : s.data.toList = l) (hs : s.size ≤ 9223372036854775807) (hn : s.size ≤ n) (hn4 : 400 ≤ n) :
    (ev Tryz.prog tab (n + 3)).callA 83 [strP s] = some [.sl (lim (parseN l).1), intP (parseN l).2] := by
  have hsz := size_l hl
  obtain ⟨R, hR⟩ : ∃ R, R = (parseN l).1 := ⟨_, rfl⟩
  obtain ⟨E, hE⟩ : ∃ E, E = (parseN l).2 := ⟨_, rfl⟩
  rw [← hR, ← hE]
  have hq : ∀ z : Int, intP z = .val (.int .i64 z) := fun _ => rfl
  have hst : strP s = .val (.string s) := rfl
  rw [callA_fn rfl Tryz.func83 rfl rfl rfl]
  have bad : (l.isEmpty || zeroH l) = true → R = [] ∧ E = 2 := fun h => by
    unfold parseN at hR hE; rw [if_pos h] at hR hE; exact ⟨hR, hE⟩
  cases hcs : l with
  | nil =>
    obtain ⟨rfl, rfl⟩ := bad (by rw [hcs]; rfl)
    rw [hcs] at hl
    simp [-frame, -getElem?_pos, Tryz.f83, hq, hst, ba_toList, hl, lim]
  | cons c t =>
    have h0 : s[0]? = some c := by rw [get_l hl, hcs]; rfl
    have hlen : s.size = t.length + 1 := by rw [hsz, hcs]; rfl
    by_cases hz : c.toNat = 48 ∧ 1 < s.size
    · obtain ⟨rfl, rfl⟩ := bad (by
        rw [hcs]
        cases t with
        | nil => simp at hlen; omega
        | cons d u => simp [zeroH, hz.1])
      have hz2 : (1 : Int) < s.size := by omega
      simp [-frame, -getElem?_pos, Tryz.f83, hq, hst, ba_toList, hl, hcs, h0, hz.1, hz2, lim]
    · have hzd : decide ((c.toNat : Int) = 48 ∧ (1 : Int) < s.size) = false := by simp; omega
      have hzb : (l.isEmpty || zeroH l) = false := by
        rw [hcs]
        cases t with
        | nil => rfl
        | cons d u =>
          have : ¬ c.toNat = 48 := fun h => hz ⟨h, by simp at hlen; omega⟩
          simp [zeroH, this]
      have hpos : 0 < l.length := by rw [hcs]; simp
      have hR' : R = if l.all digC = false then [] else if 400 < l.length then [] else ofN (decV l) := by
        rw [hR]; unfold parseN; rw [if_neg (by rw [hzb]; decide)]; split <;> first | rfl | (split <;> rfl)
      have hE' : E = if l.all digC = false then 2 else if 400 < l.length then 5 else 0 := by
        rw [hE]; unfold parseN; rw [if_neg (by rw [hzb]; decide)]; split <;> first | rfl | (split <;> rfl)
      have hone : ¬ (c.toNat : Int) = 48 ∨ (c.toNat : Int) = 48 ∧ ¬ (1 : Int) < s.size := by omega
      clear hR hE bad hzb hzd hz
      rcases hone with h48 | ⟨h48, h1s⟩
      all_goals first
        | simp [-frame, -getElem?_pos, Tryz.f83, hq, hst, ba_toList, hl, hcs, h0, h48, h1s]
        | simp [-frame, -getElem?_pos, Tryz.f83, hq, hst, ba_toList, hl, hcs, h0, h48]
      all_goals
        clear h0 h48
        refine loop_rule (fun d st => ∃ (i : Nat) (A : List (Nat × TV)), st = { tm := frameOf 52 A, sus := [], so := [] } ∧ look A 0 = .val (.string s) ∧ look A 20 = .val (.int .i64 s.size) ∧ look A 21 = .val (.int .i64 i) ∧ d = s.size - i ∧ i ≤ s.size ∧ (l.take i).all digC = true) ?_ _ s.size _ (by omega) ⟨0, _, rfl, by simp, by simp, by simp, rfl, by omega, by simp⟩
        rintro d st m ⟨i, A, rfl, k0, k20, k21, rfl, hi, hall⟩ ih
        by_cases hlt : i < s.size
        · obtain ⟨x, hx⟩ : ∃ x, l[i]? = some x := ⟨l[i], by simp⟩
          have hx' : s[i]? = some x := by rw [get_l hl, hx]
          have hw := wrap_succ hlt hs
          have hd : decide ((i : Int) < s.size) = true := by simp [hlt]
          have no : digC x = false → R = [] ∧ E = 2 := fun h => by
            have : l.all digC = false := all_not hx h
            rw [hR', hE', if_pos this, if_pos this]; exact ⟨rfl, rfl⟩
          by_cases h1 : (x.toNat : Int) < 48
          · obtain ⟨rfl, rfl⟩ := no (by simp [digC]; omega)
            simp [-frame, -getElem?_pos, k0, k20, k21, hd, hlt, hx', hw, h1, lim]
          · by_cases h2 : 57 < (x.toNat : Int)
            · obtain ⟨rfl, rfl⟩ := no (by simp [digC]; omega)
              simp [-frame, -getElem?_pos, k0, k20, k21, hd, hlt, hx', hw, h1, h2, lim]
            · simp [-frame, -getElem?_pos, k0, k20, k21, hd, hlt, hx', hw, h1, h2]
              exact ih _ _ (by omega) ⟨i + 1, _, rfl, by simp [k0], by simp [k20], by simp, rfl, by omega, all_take hall hx (by simp [digC]; omega)⟩
        · obtain rfl : i = s.size := by omega
          rw [hsz, List.take_length] at hall
          rw [if_neg (by rw [hall]; decide)] at hR' hE'
          have hd : decide ((s.size : Int) < s.size) = false := by simp
          by_cases h4 : 400 < l.length
          · rw [if_pos h4] at hR' hE'
            subst hR' hE'
            have h4' : (400 : Int) < s.size := by omega
            simp [-frame, -getElem?_pos, k0, k20, k21, hd, h4', lim]
          · rw [if_neg h4] at hR' hE'
            have h4' : ¬ (400 : Int) < s.size := by omega
            simp [-frame, -getElem?_pos, k0, k20, k21, hd, h4']
            refine loop_rule (fun d st => ∃ (j : Nat) (A : List (Nat × TV)), st = { tm := frameOf 52 A, sus := [], so := [] } ∧ look A 0 = .val (.string s) ∧ look A 39 = .val (.int .i64 s.size) ∧ look A 40 = .val (.int .i64 j) ∧ d = s.size - j ∧ j ≤ s.size ∧ ((j = 0 ∧ look A 5 = .nil) ∨ look A 5 = .sl (lim (ofN (decV (l.take j)))))) ?_ _ s.size _ (by omega) ⟨0, _, rfl, by simp [k0], by simp, by simp, rfl, by omega, .inl ⟨rfl, by simp⟩⟩
            clear k0 k20 k21 hd ih
            rintro d st m2 ⟨j, A, rfl, k0, k39, k40, rfl, hj, h5⟩ ih2
            by_cases hlt2 : j < s.size
            · obtain ⟨x, hx⟩ : ∃ x, l[j]? = some x := ⟨l[j], by simp⟩
              have hx' : s[j]? = some x := by rw [get_l hl, hx]
              have hw := wrap_succ hlt2 hs
              have hd : decide ((j : Int) < s.size) = true := by simp [hlt2]
              have hdx : digC x = true := List.all_eq_true.1 hall x (List.mem_of_getElem? hx)
              simp [digC] at hdx
              obtain ⟨e, he⟩ : ∃ e, e = x.toNat - 48 := ⟨_, rfl⟩
              have e1 : IntKind.u8.wrap ((x.toNat : Int) - 48) = (e : Int) := by rw [wrap_u8 (by omega) (by omega)]; omega
              have heB : e < B := by unfold B; omega
              have e2 := w32 heB
              have hdv := decV_take hx
              rw [← he] at hdv
              have hlt10 : decV (l.take j) < B ^ j := by
                have h1 := decV_lt (l.take j) (by rw [List.all_eq_true] at hall ⊢; exact fun y hy => hall y (List.mem_of_mem_take hy))
                rw [List.length_take, Nat.min_eq_left (by omega)] at h1
                exact Nat.lt_of_lt_of_le h1 (Nat.pow_le_pow_left (by decide) j)
              have hlen := length_ofN_le.2 hlt10
              have hsc : (ev Tryz.prog tab (n + 2)).callA 120 [.sl (lim (ofN (decV (l.take j)))), .val (.int .u32 10), .val (.int .u32 e)] = some [.sl (lim (ofN (val (ofN (decV (l.take j))) * 10 + e)))] := scale_n n (ofN (decV (l.take j))) 10 e (LB_ofN _) (by omega) (by omega) (by decide) heB (by decide) (by
                by_cases h0 : decV (l.take j) = 0
                · left; rw [h0, ofN_zero]
                · right; rw [val_ofN]; exact ofN_low h0)
              rw [val_ofN, ← hdv] at hsc
              rcases h5 with ⟨rfl, h5⟩ | h5
              · have hsc0 : (ev Tryz.prog tab (n + 2)).callA 120 [.sl [], .val (.int .u32 10), .val (.int .u32 e)] = some [.sl (lim (ofN (decV (l.take (0 + 1)))))] := by
                  rw [← hsc]; simp [decV, ofN_zero, lim]
                have hw0 : IntKind.i64.wrap (1 : Int) = 1 := by rw [wrap_i64 (by omega) (by omega)]
                have hx0 : s[0]? = some x := hx'
                have hs0 : 0 < s.size := hlt2
                simp only [Nat.zero_add] at hsc0
                simp [-frame, -getElem?_pos, k0, k39, k40, h5, hd, hs0, hx0, hw0, e1, e2, hsc0]
                exact ih2 _ _ (by omega) ⟨0 + 1, _, rfl, by simp [k0], by simp [k39], by simp, rfl, by omega, .inr (by simp)⟩
              · simp [-frame, -getElem?_pos, k0, k39, k40, h5, hd, hlt2, hx', hw, e1, e2, hsc]
                exact ih2 _ _ (by omega) ⟨j + 1, _, rfl, by simp [k0], by simp [k39], by simp, rfl, by omega, .inr (by simp)⟩
            · obtain rfl : j = s.size := by omega
              rcases h5 with ⟨h5, _⟩ | h5
              · omega
              · rw [hsz, List.take_length] at h5
                subst hR' hE'
                have hd : decide ((s.size : Int) < s.size) = false := by simp
                simp [-frame, -getElem?_pos, k0, k39, k40, h5, hd]
end Go.Proofs.YtlhjljplfmmoaaaGreatDoor.Ev
namespace Go.Proofs.YtlhjljplfmmoaaaGreatDoor.Ev
open Go
set_option linter.unusedSimpArgs false
set_option linter.unusedVariables false
set_option maxRecDepth 10000
set_option maxHeartbeats 4000000
open Nb
theorem shlE {r s : Nat} (h : r * B = s) (hs : s < 18446744073709551616) : IntKind.u64.wrap ((r : Int) * 2 ^ min 32 IntKind.u64.bits) = (s : Int) := by
  rw [show min 32 IntKind.u64.bits = 32 by decide]
  have : (r : Int) * 2 ^ 32 = (s : Int) := by rw [← h]; simp [B]
  rw [this]
  exact w64 hs
theorem orE {r s x : Nat} (h : r * B = s) (hs : s < 18446744073709551616) (hx : x < B) : s % 2 ^ IntKind.u64.bits ||| x % 2 ^ IntKind.u64.bits = s + x := by
  show s % 2 ^ 64 ||| x % 2 ^ 64 = s + x
  rw [Nat.mod_eq_of_lt (by simpa using hs), Nat.mod_eq_of_lt (by unfold B at hx; omega)]
  have h1 := Nat.shiftLeft_add_eq_or_of_lt (b := x) (i := 32) (by unfold B at hx; simpa using hx) r
  rw [Nat.shiftLeft_eq] at h1
  have h2 : r * 2 ^ 32 = s := by rw [← h]; rfl
  rw [h2] at h1
  exact h1.symm
theorem quoE {r q : Nat} (d : Nat) (h : r / d = q) : ((r : Int).tdiv (d : Int)) = (q : Int) := by rw [← h]; exact (Int.ofNat_tdiv r d).symm
theorem remE {r q : Nat} (d : Nat) (h : r % d = q) : ((r : Int).tmod (d : Int)) = (q : Int) := by rw [← h]; exact (Int.ofNat_tmod r d).symm
theorem drop_val {l : List Nat} {k x : Nat} (hx : l[k]? = some x) : val (l.drop k) = x + B * val (l.drop (k + 1)) := by
  obtain ⟨h, rfl⟩ := List.getElem?_eq_some_iff.1 hx
  rw [List.drop_eq_getElem_cons h, val]
theorem div_col {H Q r x d : Nat} (h : Q * d + r = H) : ((r * B + x) / d + B * Q) * d + (r * B + x) % d = x + B * H := by
  have h1 := Nat.div_add_mod (r * B + x) d
  have h2 : ((r * B + x) / d) * d = d * ((r * B + x) / d) := Nat.mul_comm _ _
  rw [Nat.add_mul, ← h, Nat.mul_add, Nat.mul_assoc, h2, Nat.mul_comm B r]
  omega
theorem divSmall_n (n : Nat) (a : List Nat) (d : Nat) (hb : LB a) (hl : a.length ≤ 70368744177664) (hn : a.length ≤ n) (hd0 : 0 < d) (hdB : d < B) :
    (ev Tryz.prog tab (n + 2)).callA 105 [.sl (lim a), .val (.int .u32 d)] = some [.sl (lim (ofN (val a / d))), .val (.int .u32 (val a % d : Nat))] := by
  have hB : B = 4294967296 := rfl
  have hdw := w64 (show d < 18446744073709551616 by omega)
  have hl1 : IntKind.i64.wrap ((a.length : Int) - 1) = (a.length : Int) - 1 := by rw [wrap_i64 (by omega) (by omega)]
  obtain ⟨V, hV⟩ : ∃ V, V = val a % d := ⟨_, rfl⟩
  rw [← hV]
  rw [callA_fn rfl Tryz.func105 rfl rfl rfl]
  simp [-frame, -getElem?_pos, -evMake, Tryz.f105]
  rw [evMake_nat (by omega) (by omega) (by omega)]
  simp [-frame, -getElem?_pos, hl1, lim_zero]
  refine loop_rule (fun e st => ∃ (k r : Nat) (q : List Nat) (A : List (Nat × TV)), st = { tm := frameOf 43 A, sus := [], so := [(11, .row 125 (lim q))] } ∧ look A 0 = .sl (lim a) ∧ look A 1 = .val (.int .u32 d) ∧ look A 6 = .row 11 0 a.length ∧ look A 7 = .val (.int .u64 r) ∧ look A 8 = .val (.int .i64 ((k : Int) - 1)) ∧ k = e ∧ k ≤ a.length ∧ LB q ∧ q.length = a.length ∧ r < d ∧ val (q.drop k) * d + r = val (a.drop k)) ?_ _ a.length _ (by omega) ⟨a.length, 0, List.replicate a.length 0, _, rfl, by simp, by simp, by simp, by simp, by simp, rfl, by omega, LB_zero _, by simp, hd0, by simp [List.drop_of_length_le, val]⟩
  rintro e st m ⟨k, r, q, A, rfl, k0, k1, k6, k7, k8, rfl, hk, hbq, hlq, hr, hv⟩ ih
  by_cases hk0 : k = 0
  · subst hk0
    simp only [List.drop_zero] at hv
    have hq : val a / d = val q := by rw [← hv]; rw [Nat.mul_comm, Nat.mul_add_div hd0, Nat.div_eq_of_lt hr]; rfl
    have hm : val a % d = r := by rw [← hv, Nat.mul_comm, Nat.mul_add_mod, Nat.mod_eq_of_lt hr]
    rw [hm] at hV
    subst hV
    rw [hq]
    have ht := trim_n n q hbq (by omega) (by omega)
    have e1 := w32 (show V < B by omega)
    have htk : List.take a.length (lim q) = lim q := List.take_of_length_le (by simp; omega)
    simp [-frame, -getElem?_pos, k0, k1, k6, k7, k8, hlq, htk, ht, e1]
  · obtain ⟨j, rfl⟩ : ∃ j, k = j + 1 := ⟨k - 1, by omega⟩
    obtain ⟨x, hx⟩ : ∃ x, a[j]? = some x := ⟨a[j], by simp⟩
    obtain ⟨y, hy⟩ : ∃ y, q[j]? = some y := ⟨q[j], by simp⟩
    have hx' := lim_get hx
    have hy' := lim_get hy
    have hxB := hb.get hx
    have e0 : ((j + 1 : Nat) : Int) - 1 = (j : Int) := by omega
    rw [e0] at k8
    obtain ⟨s, hs⟩ : ∃ s, r * B = s := ⟨_, rfl⟩
    have hrB : r * B ≤ (B - 1) * B := Nat.mul_le_mul_right _ (by omega)
    have hBB : (B - 1) * B + B = 18446744073709551616 := by decide
    have hs64 : s < 18446744073709551616 := by omega
    have hsx : s + x < 18446744073709551616 := by omega
    obtain ⟨u, hu⟩ : ∃ u, u = s + x := ⟨_, rfl⟩
    have e1 := shlE hs hs64
    have e2 := orE hs hs64 hxB
    rw [← hu] at e2
    have e3 := w64 (show x < 18446744073709551616 by omega)
    have e4 := w64 (show u < 18446744073709551616 by omega)
    obtain ⟨q', hq'⟩ : ∃ q', u / d = q' := ⟨_, rfl⟩
    obtain ⟨r', hr'⟩ : ∃ r', u % d = r' := ⟨_, rfl⟩
    have e5 := quoE d hq'
    have e6 := remE d hr'
    have hr'd : r' < d := by rw [← hr']; exact Nat.mod_lt _ hd0
    have hq'B : q' < B := by
      rw [← hq', hu, ← hs]
      apply Nat.div_lt_of_lt_mul
      have : (r + 1) * B ≤ d * B := Nat.mul_le_mul_right _ hr
      rw [Nat.add_mul] at this
      omega
    have e7 := w64 (show q' < 18446744073709551616 by omega)
    have e8 := w32 hq'B
    have hdn : ¬ (d : Int) = 0 := by omega
    have hdn' : ¬ d = 0 := by omega
    have hwm : IntKind.i64.wrap ((j : Int) - 1) = (j : Int) - 1 := by rw [wrap_i64 (by omega) (by omega)]
    have hjl : j < a.length := by omega
    have hjq : j < q.length := by omega
    have hv' : val ((q.set j q').drop j) * d + r' = val (a.drop j) := by
      rw [drop_val hx, drop_val (x := q') (by simp [List.getElem?_set, hjq]), List.drop_set_of_lt (by omega), ← hq', ← hr', hu, ← hs]
      exact div_col hv
    simp [-frame, -getElem?_pos, k0, k1, k6, k7, k8, hlq, hjl, hx', hy', lp, hdw, e1, e2, e3, e4, e5, e6, e7, e8, hdn, hdn', hwm, rowO, mkPV, putPV]
    exact ih j _ (by omega) ⟨j, r', q.set j q', _, by simp only [lim, lp, List.map_set]; rfl, by simp [k0], by simp [k1], by simp [k6], by simp, by simp, rfl, by omega, hbq.set hq'B j, by simp [hlq], hr'd, hv'⟩
end Go.Proofs.YtlhjljplfmmoaaaGreatDoor.Ev
