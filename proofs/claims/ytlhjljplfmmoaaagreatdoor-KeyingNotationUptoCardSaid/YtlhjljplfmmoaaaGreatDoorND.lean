/- Bytes; integer parts; cutting, digits: what they compute. -/
import Derived.Test.YtlhjljplfmmoaaaGreatDoorNC
import Derived.Test.YtlhjljplfmmoaaaGreatDoorF6
namespace Go.Proofs.YtlhjljplfmmoaaaGreatDoor.Ev
open Go
set_option linter.unusedSimpArgs false
set_option linter.unusedVariables false
set_option maxRecDepth 10000
set_option maxHeartbeats 4000000
open Nb
theorem ba_size (l : List UInt8) : (ByteArray.mk l.toArray).size = l.length := by simp [ByteArray.size]
theorem ba_list (l : List UInt8) : (ByteArray.mk l.toArray).toList = l := by rw [ba_toList]
theorem ba_get (l : List UInt8) (i : Nat) : (ByteArray.mk l.toArray)[i]? = l[i]? := get_l (l := l) rfl i
theorem ba_ext {s t : ByteArray} (h : s.data.toList = t.data.toList) : s = t := by
  obtain ⟨a⟩ := s; obtain ⟨b⟩ := t
  congr 1
  exact Array.toList_inj.1 h
theorem ba_app (x y : List UInt8) : (ByteArray.mk x.toArray) ++ (ByteArray.mk y.toArray) = ByteArray.mk (x ++ y).toArray := by
  apply ba_ext
  simp
theorem ba_cut (l : List UInt8) (a b : Nat) : (ByteArray.mk l.toArray).extract a b = ByteArray.mk ((l.take b).drop a).toArray := by
  apply ba_ext
  rw [ByteArray.data_extract, Array.toList_extract, List.extract_eq_take_drop, List.drop_take]
def strL (l : List UInt8) : PV := strP ⟨l.toArray⟩
theorem strL_eq (s : ByteArray) : strP s = strL s.data.toList := by
  unfold strL
  congr 1
def zP (neg : Bool) (m : Nat) : PV := .agg [.val (.bool neg), .sl (lim (ofN m))]
theorem sz_int : sizeT Tryz.prog 64 = some 2 := by kernel_rfl
theorem sz_nat : sizeT Tryz.prog 62 = some 1 := by kernel_rfl
theorem ze_int : zeroT Tryz.prog 64 = some (.agg [.val (.bool false), .nil]) := by kernel_rfl
theorem len_pos {m : Nat} (h : m ≠ 0) : 0 < (ofN m).length := by
  have : (ofN m).length ≠ 0 := fun h0 => h (ofN_eq_nil.1 (List.eq_nil_of_length_eq_zero h0))
  omega
theorem make_n (n : Nat) (neg : Bool) (a : List Nat) (ha : LB a) (hla : a.length ≤ 35184372088832) (hn : a.length ≤ n) :
    (ev Tryz.prog tab (n + 3)).callA 87 [.val (.bool neg), .sl (lim a)] = some [zP (neg && decide (val a ≠ 0)) (val a)] := by
  have hno := norm_n n a ha hla hn
  rw [callA_fn rfl Tryz.func87 rfl rfl rfl]
  cases neg
  · simp [-frame, -getElem?_pos, -step_some, stepN, Tryz.f87, hno, sz_int, sz_nat, ze_int, Tryz.underlying64, zP]
  · by_cases h0 : val a = 0
    · rw [h0, ofN_zero, lim_nil] at hno
      simp [-frame, -getElem?_pos, -step_some, stepN, Tryz.f87, hno, sz_int, sz_nat, ze_int, Tryz.underlying64, zP, h0, ofN_zero, lim_nil]
    · have hl := len_pos h0
      simp [-frame, -getElem?_pos, -step_some, stepN, Tryz.f87, hno, sz_int, sz_nat, ze_int, Tryz.underlying64, zP, h0, hl]
theorem ofInt_n (n : Nat) (z : Int) (h1 : -9223372036854775808 ≤ z) (h2 : z ≤ 9223372036854775807) (hn : 2 ≤ n) :
    (ev Tryz.prog tab (n + 3)).callA 45 [intP z] = some [zP (decide (z < 0)) z.natAbs] := by
  have hq : ∀ z : Int, intP z = .val (.int .i64 z) := fun _ => rfl
  have ho := of_n n z.natAbs (by omega) hn
  rw [callA_fn rfl Tryz.func45 rfl rfl rfl]
  by_cases h : z < 0
  · obtain ⟨m, hm⟩ : ∃ m, m = z.natAbs := ⟨_, rfl⟩
    rw [← hm] at ho ⊢
    have hz : z = -(m : Int) := by omega
    have e1 : IntKind.i64.wrap (z + 1) = z + 1 := wrap_i64 (by omega) (by omega)
    have e2 : IntKind.i64.wrap (0 - (z + 1)) = ((m - 1 : Nat) : Int) := by rw [wrap_i64 (by omega) (by omega)]; omega
    obtain ⟨m1, hm1⟩ : ∃ m1, m1 = m - 1 := ⟨_, rfl⟩
    rw [← hm1] at e2
    have e3 := w64 (show m1 < 18446744073709551616 by omega)
    have e4 : IntKind.u64.wrap ((m1 : Int) + 1) = (m : Int) := by rw [wrap_u64 (by omega) (by omega)]; omega
    have e2' : IntKind.i64.wrap (-(z + 1)) = (m1 : Int) := by rw [show -(z + 1) = 0 - (z + 1) by omega]; exact e2
    simp [-frame, -getElem?_pos, -step_some, stepN, Tryz.f45, hq, h, e1, e2, e2', e3, e4, ho, sz_int, sz_nat, ze_int, Tryz.underlying64, zP]
  · obtain ⟨m, rfl⟩ : ∃ m : Nat, z = m := ⟨z.toNat, by omega⟩
    have e3 := w64 (show m < 18446744073709551616 by omega)
    simp only [Int.natAbs_natCast] at ho ⊢
    simp [-frame, -getElem?_pos, -step_some, stepN, Tryz.f45, hq, h, e3, ho, sz_int, sz_nat, ze_int, Tryz.underlying64, zP]
end Go.Proofs.YtlhjljplfmmoaaaGreatDoor.Ev
namespace Go.Proofs.YtlhjljplfmmoaaaGreatDoor.Ev
open Go
set_option linter.unusedSimpArgs false
set_option linter.unusedVariables false
set_option maxRecDepth 10000
set_option maxHeartbeats 4000000
open Nb
def zL (neg : Bool) (a : List Nat) : PV := .agg [.val (.bool neg), .sl (lim a)]
theorem zP_eq (neg : Bool) (m : Nat) : zP neg m = zL neg (ofN m) := rfl
def signZ (neg : Bool) (m : Nat) : Int := if m = 0 then 0 else if neg = true then -1 else 1
theorem sign_n (n : Nat) (neg : Bool) (a : List Nat) (ha : LB a) (hla : a.length ≤ 35184372088832) (hn : a.length ≤ n) :
    (ev Tryz.prog tab (n + 3)).callA 72 [zL neg a] = some [intP (signZ neg (val a))] := by
  have hq : ∀ z : Int, intP z = .val (.int .i64 z) := fun _ => rfl
  obtain ⟨k, hb, hk⟩ := bits_n n a ha hla hn
  simp only [hq] at hb
  rw [callA_fn rfl Tryz.func72 rfl rfl rfl]
  by_cases h0 : val a = 0
  · have hk0 := hk.2 h0
    subst hk0
    have hb' : (ev Tryz.prog tab (n + 2)).callA 103 [.sl (lim a)] = some [.val (.int .i64 0)] := hb
    simp [-frame, -getElem?_pos, -step_some, stepN, Tryz.f72, zL, hq, hb', signZ, h0, sz_int, sz_nat, Tryz.underlying64]
  · have hk0 : ¬ (k : Int) = 0 := by
      intro h; exact h0 (hk.1 (by omega))
    have hk1 : ¬ k = 0 := by omega
    cases neg
    · simp [-frame, -getElem?_pos, -step_some, stepN, Tryz.f72, zL, hq, hb, signZ, h0, hk0, hk1, sz_int, sz_nat, Tryz.underlying64]
    · simp [-frame, -getElem?_pos, -step_some, stepN, Tryz.f72, zL, hq, hb, signZ, h0, hk0, hk1, sz_int, sz_nat, Tryz.underlying64]
theorem wrap_zero : IntKind.i64.wrap 0 = 0 := wrap_i64 (by decide) (by decide)
theorem uint_n (n : Nat) (a : List Nat) (ha : LB a) (hla : a.length ≤ 35184372088832) (hn : a.length ≤ n) :
    (ev Tryz.prog tab (n + 2)).callA 88 [.sl (lim a)] = some (if val a < 18446744073709551616 then [.val (.int .u64 (val a : Nat)), .val (.bool true)] else [.val (.int .u64 0), .val (.bool false)]) := by
  have ta := trim_n n a ha (by omega) hn
  have hXa := len_ofN_le ha
  obtain ⟨m, hm⟩ : ∃ m, m = val a := ⟨_, rfl⟩
  rw [← hm] at ta hXa ⊢
  obtain ⟨X, hX⟩ : ∃ X, X = ofN m := ⟨_, rfl⟩
  have hbX : LB X := by rw [hX]; exact LB_ofN _
  have hvX : val X = m := by rw [hX]; exact val_ofN m
  have hlX : X.length ≤ 2 ↔ m < 18446744073709551616 := by
    rw [hX, length_ofN_le]; rw [show B ^ 2 = 18446744073709551616 by decide]
  rw [← hX] at ta hXa
  obtain ⟨V, hV⟩ : ∃ V, V = (if m < 18446744073709551616 then [PV.val (.int .u64 (m : Nat)), .val (.bool true)] else [.val (.int .u64 0), .val (.bool false)]) := ⟨_, rfl⟩
  rw [← hV]
  rw [callA_fn rfl Tryz.func88 rfl rfl rfl]
  by_cases h2 : X.length ≤ 2
  · rw [if_pos (hlX.1 h2)] at hV
    have h2' : ¬ (2 : Int) < (X.length : Int) := by omega
    have h2'' : ¬ 2 < X.length := by omega
    simp [-frame, -getElem?_pos, -step_some, stepN, Tryz.f88, ta, h2', h2'']
    refine loop_rule (fun d st => ∃ (i v : Nat) (A : List (Nat × TV)), st = { tm := frameOf 29 A, sus := [], so := [] } ∧ look A 5 = .val (.int .u64 v) ∧ look A 13 = .sl (lim X) ∧ look A 14 = .val (.int .i64 X.length) ∧ look A 15 = .val (.int .i64 i) ∧ d = X.length - i ∧ i ≤ X.length ∧ v = val (X.take i)) ?_ _ X.length _ (by omega) ⟨0, 0, _, rfl, by simp, by simp, by simp, by simp, rfl, by omega, rfl⟩
    rintro d st m2 ⟨i, v, A, rfl, k5, k13, k14, k15, rfl, hi, hv⟩ ih
    by_cases hlt : i < X.length
    · obtain ⟨x, hx⟩ : ∃ x, X[i]? = some x := ⟨X[i], by simp⟩
      have hxB := hbX.get hx
      have hx' := lim_get hx
      have hw := wrap_succ hlt (by omega)
      have hd : decide ((i : Int) < X.length) = true := by simp [hlt]
      have e1 := w64 (show x < 18446744073709551616 by unfold B at hxB; omega)
      have hi01 : i = 0 ∨ i = 1 := by omega
      have hvi := val_take_succ hx
      rw [← hv] at hvi
      rcases hi01 with rfl | rfl
      · have hv0 : v = 0 := by rw [hv]; rfl
        subst hv0
        have hl0 : 0 < X.length := hlt
        have e2 : x % 2 ^ IntKind.u64.bits = x := Nat.mod_eq_of_lt (by show x < 2 ^ 64; unfold B at hxB; omega)
        simp [-frame, -getElem?_pos, -step_some, stepN, k5, k13, k14, k15, hd, hl0, hx', lp, e1, e2, wrap_one, wrap_zero]
        exact ih _ _ (by omega) ⟨1, x, _, rfl, by simp, by simp [k13], by simp [k14], by simp, rfl, by omega, by rw [hvi]; simp⟩
      · have hvB : v < B := by rw [hv]; have := val_take_lt hbX 1; simpa using this
        obtain ⟨s, hs⟩ : ∃ s, x * B = s := ⟨_, rfl⟩
        have hxBB : x * B ≤ (B - 1) * B := Nat.mul_le_mul_right _ (by omega)
        have hBB : (B - 1) * B + B = 18446744073709551616 := by decide
        have hs64 : s < 18446744073709551616 := by have := B_pos; omega
        have e2 := shlE hs hs64
        have e3 := orE hs hs64 hvB
        have e4 : IntKind.i64.wrap 2 = 2 := wrap_i64 (by decide) (by decide)
        have e5 : IntKind.i64.wrap 32 = 32 := wrap_i64 (by decide) (by decide)
        obtain ⟨u, hu⟩ : ∃ u, u = s + v := ⟨_, rfl⟩
        rw [← hu, Nat.or_comm] at e3
        have e6 := w64 (show u < 18446744073709551616 by omega)
        have hl1 : 1 < X.length := hlt
        have hl1' : (1 : Int) < (X.length : Int) := by omega
        have hw1 : IntKind.i64.wrap (1 + 1) = 2 := wrap_i64 (by decide) (by decide)
        simp [-frame, -getElem?_pos, -step_some, stepN, k5, k13, k14, k15, hd, hl1, hl1', hw1, hx', lp, e1, e2, e3, e4, e5, e6]
        exact ih _ _ (by omega) ⟨2, u, _, rfl, by simp, by simp [k13], by simp [k14], by simp, rfl, by omega, by rw [hvi, hu, ← hs]; rw [Nat.pow_one, Nat.mul_comm]; omega⟩
    · obtain rfl : i = X.length := by omega
      rw [List.take_length, hvX] at hv
      subst hv
      have hd : decide ((X.length : Int) < X.length) = false := by simp
      simp [-frame, -getElem?_pos, -step_some, stepN, k5, k13, k14, k15, hd, hV]
  · rw [if_neg (fun h => h2 (hlX.2 h))] at hV
    have h2' : (2 : Int) < (X.length : Int) := by omega
    have h2'' : 2 < X.length := by omega
    simp [-frame, -getElem?_pos, -step_some, stepN, Tryz.f88, ta, h2', h2'', hV]
def int64Z (neg : Bool) (m : Nat) : Int × Bool :=
  if m < 9223372036854775808 then (if neg = true then -(m : Int) else m, true) else if m = 9223372036854775808 ∧ neg = true then (-9223372036854775808, true) else (0, false)
theorem int64_n (n : Nat) (neg : Bool) (a : List Nat) (ha : LB a) (hla : a.length ≤ 35184372088832) (hn : a.length ≤ n) :
    (ev Tryz.prog tab (n + 3)).callA 50 [zL neg a] = some [intP (int64Z neg (val a)).1, .val (.bool (int64Z neg (val a)).2)] := by
  have hq : ∀ z : Int, intP z = .val (.int .i64 z) := fun _ => rfl
  have hu := uint_n n a ha hla hn
  obtain ⟨m, hm⟩ : ∃ m, m = val a := ⟨_, rfl⟩
  rw [← hm] at hu ⊢
  obtain ⟨R, hR⟩ : ∃ R, R = int64Z neg m := ⟨_, rfl⟩
  rw [← hR]
  rw [callA_fn rfl Tryz.func50 rfl rfl rfl]
  by_cases h1 : m < 18446744073709551616
  · rw [if_pos h1] at hu
    by_cases h2 : m < 9223372036854775808
    · have e0 : ¬ (9223372036854775808 : Int) < (m : Int) := by omega
      have e0' : ¬ 9223372036854775808 < m := by omega
      have e1 : ¬ (m : Int) = 9223372036854775808 := by omega
      have e1' : ¬ m = 9223372036854775808 := by omega
      have e2 : IntKind.i64.wrap (m : Int) = (m : Int) := wrap_i64 (by omega) (by omega)
      have e3 : IntKind.i64.wrap (-(m : Int)) = -(m : Int) := wrap_i64 (by omega) (by omega)
      cases neg
      · have hR' : R = ((m : Int), true) := by rw [hR]; simp [int64Z, h2]
        rw [hR']
        simp [-frame, -getElem?_pos, -step_some, stepN, Tryz.f50, zL, hq, hu, e0, e0', e1, e1', e2, sz_int, sz_nat, Tryz.underlying64]
      · have hR' : R = (-(m : Int), true) := by rw [hR]; simp [int64Z, h2]
        rw [hR']
        simp [-frame, -getElem?_pos, -step_some, stepN, Tryz.f50, zL, hq, hu, e0, e0', e1, e1', e2, e3, sz_int, sz_nat, Tryz.underlying64]
    · by_cases h3 : m = 9223372036854775808
      · subst h3
        cases neg
        · have hR' : R = (0, false) := by rw [hR]; simp [int64Z]
          rw [hR']
          simp [-frame, -getElem?_pos, -step_some, stepN, Tryz.f50, zL, hq, hu, sz_int, sz_nat, Tryz.underlying64]
        · have hR' : R = (-9223372036854775808, true) := by rw [hR]; simp [int64Z]
          rw [hR']
          have e2 : IntKind.i64.wrap 9223372036854775808 = -9223372036854775808 := by decide
          simp [-frame, -getElem?_pos, -step_some, stepN, Tryz.f50, zL, hq, hu, e2, sz_int, sz_nat, Tryz.underlying64]
      · have e0 : (9223372036854775808 : Int) < (m : Int) := by omega
        have e0' : 9223372036854775808 < m := by omega
        have hR' : R = (0, false) := by rw [hR]; simp [int64Z, h2, h3]
        rw [hR']
        simp [-frame, -getElem?_pos, -step_some, stepN, Tryz.f50, zL, hq, hu, e0, e0', sz_int, sz_nat, Tryz.underlying64]
  · rw [if_neg h1] at hu
    have hR' : R = (0, false) := by rw [hR]; simp [int64Z, show ¬ m < 9223372036854775808 by omega, show ¬ m = 9223372036854775808 by omega]
    rw [hR']
    simp [-frame, -getElem?_pos, -step_some, stepN, Tryz.f50, zL, hq, hu, sz_int, sz_nat, Tryz.underlying64]
end Go.Proofs.YtlhjljplfmmoaaaGreatDoor.Ev
namespace Go.Proofs.YtlhjljplfmmoaaaGreatDoor.Ev
open Go
set_option linter.unusedSimpArgs false
set_option linter.unusedVariables false
set_option maxRecDepth 10000
set_option maxHeartbeats 4000000
open Nb
def cutL (c : UInt8) : List UInt8 → List UInt8 × List UInt8 × Bool
  | [] => ([], [], false)
  | x :: t => if x == c then ([], t, true) else (x :: (cutL c t).1, (cutL c t).2.1, (cutL c t).2.2)
theorem idx_cut (c : UInt8) : ∀ (l : List UInt8) (i : Int), (indexL c l i = -1 ∧ cutL c l = (l, [], false)) ∨ ∃ k : Nat, indexL c l i = i + k ∧ k < l.length ∧ cutL c l = (l.take k, l.drop (k + 1), true)
  | [], i => .inl ⟨rfl, rfl⟩
  | x :: t, i => by
    unfold indexL cutL
    by_cases h : (x == c) = true
    · right
      exact ⟨0, by rw [if_pos h]; simp, by simp, by rw [if_pos h]; simp⟩
    · rw [if_neg h, if_neg h]
      rcases idx_cut c t (i + 1) with ⟨h1, h2⟩ | ⟨k, h1, h2, h3⟩
      · left; exact ⟨h1, by rw [h2]⟩
      · right
        exact ⟨k + 1, by rw [h1]; omega, by simp; omega, by rw [h3]; simp⟩
theorem cut_no {c : UInt8} : ∀ {l : List UInt8}, c ∉ l → cutL c l = (l, [], false)
  | [], _ => rfl
  | x :: t, h => by
    have h1 : ¬ (x == c) = true := by intro he; apply h; rw [eq_of_beq he]; simp
    unfold cutL
    rw [if_neg h1, cut_no (fun hm => h (List.mem_cons_of_mem _ hm))]
theorem cut_yes {c : UInt8} (r : List UInt8) : ∀ {w : List UInt8}, c ∉ w → cutL c (w ++ c :: r) = (w, r, true)
  | [], _ => by simp [cutL]
  | x :: t, h => by
    have h1 : ¬ (x == c) = true := by intro he; apply h; rw [eq_of_beq he]; simp
    rw [List.cons_append]
    unfold cutL
    rw [if_neg h1, cut_yes r (fun hm => h (List.mem_cons_of_mem _ hm))]
theorem cut_inv {c : UInt8} : ∀ {l : List UInt8}, ((cutL c l).2.2 = true → l = (cutL c l).1 ++ c :: (cutL c l).2.1) ∧ ((cutL c l).2.2 = false → l = (cutL c l).1 ∧ (cutL c l).2.1 = []) ∧ c ∉ (cutL c l).1
  | [] => by simp [cutL]
  | x :: t => by
    have ih := cut_inv (c := c) (l := t)
    unfold cutL
    by_cases h : (x == c) = true
    · rw [if_pos h]
      have := eq_of_beq h
      subst this
      simp
    · rw [if_neg h]
      have hne : ¬ x = c := fun he => h (by rw [he]; simp)
      refine ⟨fun hb => ?_, fun hb => ?_, ?_⟩
      · simp only [List.cons_append]; congr 1; exact ih.1 hb
      · exact ⟨by simp only; congr 1; exact (ih.2.1 hb).1, (ih.2.1 hb).2⟩
      · simp only [List.mem_cons, not_or]
        exact ⟨fun he => hne he.symm, ih.2.2⟩
theorem one_arr (c : UInt8) : (ByteArray.mk #[c]) = ByteArray.mk [c].toArray := rfl
theorem cut_l (n : Nat) (l : List UInt8) (c : UInt8) (hl : l.length ≤ 9223372036854775806) :
    (ev Tryz.prog tab (n + 5)).callA 80 [strL l, strP ⟨#[c]⟩] = some [strL (cutL c l).1, strL (cutL c l).2.1, .val (.bool (cutL c l).2.2)] := by
  have hsz := ba_size l
  have hz : (⟨#[c]⟩ : ByteArray).size = 1 := rfl
  have hS : ∀ m, strL m = .val (.string ⟨m.toArray⟩) := fun _ => rfl
  have g2 : (ev Tryz.prog tab (n + 4)).callA 114 [.val (.string ⟨l.toArray⟩), .val (.string ⟨#[c]⟩)] = some [strL (cutL c l).1, strL (cutL c l).2.1, .val (.bool (cutL c l).2.2)] := by
    have g := index1_ev n ⟨l.toArray⟩ c l (by simp)
    simp only [strP, intP] at g
    rcases idx_cut c l 0 with ⟨h, hc⟩ | ⟨k, h, hk, hc⟩
    · rw [hc]
      rw [h] at g
      rw [callA_fn rfl Tryz.func114 rfl rfl rfl]
      simp [-frame, -getElem?_pos, -step_some, stepN, Tryz.f114, g, hS]
    · rw [hc]
      rw [h, Int.zero_add] at g
      have hw : IntKind.i64.wrap ((k : Int) + 1) = (k : Int) + 1 := wrap_i64 (by omega) (by omega)
      have c1 : (ByteArray.mk l.toArray).extract 0 k = ByteArray.mk (l.take k).toArray := by rw [ba_cut]; simp
      have c2 : (ByteArray.mk l.toArray).extract (k + 1) l.length = ByteArray.mk (l.drop (k + 1)).toArray := by rw [ba_cut]; simp
      rw [callA_fn rfl Tryz.func114 rfl rfl rfl]
      simp [-frame, -getElem?_pos, -step_some, stepN, Tryz.f114, g, hz, hw, hsz, hS, show (k : Int) ≤ l.length by omega, show (k : Int) + 1 ≤ l.length by omega, show 0 ≤ (k : Int) + 1 by omega]
      refine (drawK_of (by kernel_rfl)).trans ?_
      simp [-frame, -getElem?_pos, -step_some, stepN, -stepD_some, stepDN, evOpD, hw, hz, hsz, show (k : Int) ≤ l.length by omega, show (k : Int) + 1 ≤ l.length by omega, show 0 ≤ (k : Int) + 1 by omega, c1, c2]
  rw [callA_fn rfl Tryz.func80 rfl rfl rfl]
  simp only [hS] at g2 ⊢
  simp [-frame, -getElem?_pos, -step_some, stepN, Tryz.f80, strP, g2]
def cutP (c : UInt8) : List UInt8 → List UInt8 × Bool
  | [] => ([], false)
  | x :: t => if x = c then (t, true) else (x :: t, false)
theorem hasPrefix_l (n : Nat) (l : List UInt8) (c : UInt8) (hl : l.length ≤ 9223372036854775806) :
    (ev Tryz.prog tab (n + 1)).callA 121 [strL l, strP ⟨#[c]⟩] = some [.val (.bool (cutP c l).2)] := by
  have hz : (⟨#[c]⟩ : ByteArray).size = 1 := rfl
  have hS : ∀ m, strL m = .val (.string ⟨m.toArray⟩) := fun _ => rfl
  have ho : (ByteArray.mk #[c]).toList = [c] := ba_list [c]
  rw [callA_fn rfl Tryz.func121 rfl rfl rfl]
  cases l with
  | nil => simp [-frame, -getElem?_pos, -step_some, stepN, Tryz.f121, hS, strP, hz, ba_size, cutP]
  | cons x t =>
    have h1 : (1 : Int) ≤ (t.length : Int) + 1 := by omega
    have h2 : (0 : Int) ≤ (t.length : Int) := by omega
    have hx : (ByteArray.mk (x :: t).toArray).extract 0 1 = ByteArray.mk [x].toArray := by rw [ba_cut]; simp
    have hx2 : (ByteArray.mk [x].toArray).toList = [x] := ba_list [x]
    by_cases hxc : x = c
    · subst hxc
      simp [-frame, -getElem?_pos, -step_some, stepN, Tryz.f121, hS, strP, hz, ba_size, cutP, h1, h2]
      rw [ba_cut, ba_list]; simp
    · simp [-frame, -getElem?_pos, -step_some, stepN, Tryz.f121, hS, strP, hz, ba_size, cutP, h1, h2, hxc]
      rw [ba_cut, ba_list]; simp [hxc]
theorem cutPrefix_l (n : Nat) (l : List UInt8) (c : UInt8) (hl : l.length ≤ 9223372036854775806) :
    (ev Tryz.prog tab (n + 3)).callA 51 [strL l, strP ⟨#[c]⟩] = some [strL (cutP c l).1, .val (.bool (cutP c l).2)] := by
  have hS : ∀ m, strL m = .val (.string ⟨m.toArray⟩) := fun _ => rfl
  have hz : (⟨#[c]⟩ : ByteArray).size = 1 := rfl
  have hp := hasPrefix_l n l c hl
  simp only [hS, strP] at hp
  have g : (ev Tryz.prog tab (n + 2)).callA 89 [.val (.string ⟨l.toArray⟩), .val (.string ⟨#[c]⟩)] = some [strL (cutP c l).1, .val (.bool (cutP c l).2)] := by
    rw [callA_fn rfl Tryz.func89 rfl rfl rfl]
    cases l with
    | nil => simp [-frame, -getElem?_pos, -step_some, stepN, Tryz.f89, hS, hp, cutP]
    | cons x t =>
      by_cases hxc : x = c
      · subst hxc
        have h1 : (1 : Int) ≤ (t.length : Int) + 1 := by omega
        have h2 : (0 : Int) ≤ (t.length : Int) := by omega
        have hx : (ByteArray.mk (x :: t).toArray).extract 1 (t.length + 1) = ByteArray.mk t.toArray := by rw [ba_cut]; simp
        have hcp : cutP x (x :: t) = (t, true) := by simp [cutP]
        rw [hcp] at hp ⊢
        simp [-frame, -getElem?_pos, -step_some, stepN, Tryz.f89, hS, hp, hz, ba_size, h1, h2]
        rw [ba_cut]; simp
      · have hcp : cutP c (x :: t) = (x :: t, false) := by simp [cutP, hxc]
        rw [hcp] at hp ⊢
        simp [-frame, -getElem?_pos, -step_some, stepN, Tryz.f89, hS, hp]
  simp only [hS] at g
  rw [callA_fn rfl Tryz.func51 rfl rfl rfl]
  simp [-frame, -getElem?_pos, -step_some, stepN, Tryz.f51, strP, hS, g]
theorem mem_dropWhile {p : UInt8 → Bool} {x : UInt8} : ∀ {l : List UInt8}, x ∈ l → p x = false → x ∈ l.dropWhile p
  | [], h, _ => by simp at h
  | y :: t, h, hp => by
    rw [List.dropWhile_cons]
    split
    · rename_i hy
      rcases List.mem_cons.1 h with rfl | h
      · rw [hp] at hy; cases hy
      · exact mem_dropWhile h hp
    · exact h
theorem dropWhile_all {p : UInt8 → Bool} : ∀ {l : List UInt8}, l.all p = true → l.dropWhile p = []
  | [], _ => rfl
  | y :: t, h => by
    simp only [List.all_cons, Bool.and_eq_true] at h
    rw [List.dropWhile_cons, if_pos h.1]
    exact dropWhile_all h.2
theorem trimS_nil (l cs : List UInt8) : (Lib.trimS l cs = []) ↔ l.all (cs.contains ·) = true := by
  constructor
  · intro h
    rw [List.all_eq_true]
    intro x hx
    by_cases hc : cs.contains x = true
    · exact hc
    · exfalso
      have hc' : cs.contains x = false := by simpa using hc
      have h1 : x ∈ Lib.trimRightS l cs := by
        unfold Lib.trimRightS
        rw [List.mem_reverse]
        exact mem_dropWhile (by rw [List.mem_reverse]; exact hx) hc'
      have h2 : x ∈ Lib.trimS l cs := by
        unfold Lib.trimS Lib.trimLeftS
        exact mem_dropWhile h1 hc'
      rw [h] at h2; simp at h2
  · intro h
    have h1 : l.reverse.all (cs.contains ·) = true := by rw [List.all_reverse]; exact h
    unfold Lib.trimS Lib.trimRightS Lib.trimLeftS
    rw [dropWhile_all h1]
    rfl
theorem ten_digs (b : UInt8) : [48, 49, 50, 51, 52, 53, 54, 55, 56, 57].contains b = digC b := by
  have : ∀ k : Fin 256, [48, 49, 50, 51, 52, 53, 54, 55, 56, 57].contains (UInt8.ofNat k.val) = digC (UInt8.ofNat k.val) := by decide +kernel
  have h := this ⟨b.toNat, UInt8.toNat_lt b⟩
  simpa using h
theorem trim_g (n : Nat) (l cs : List UInt8) (h1 : l.length ≤ 9223372036854775807) (h2 : cs.length < 4294967281) (h3 : lowB cs = true) :
    (ev Tryz.prog tab (n + 1)).callA 115 [strL l, strL cs] = some [strL (Lib.trimS l cs)] := by
  rw [callG n (g := gTrim) (by kernel_rfl)]
  show (if (ByteArray.mk l.toArray).size ≤ 9223372036854775807 ∧ (ByteArray.mk cs.toArray).size < 4294967281 ∧ lowB (ByteArray.mk cs.toArray).data.toList = true then some [strL (Lib.trimS (ByteArray.mk l.toArray).data.toList (ByteArray.mk cs.toArray).data.toList)] else none) = _
  rw [if_pos ⟨by rw [ba_size]; exact h1, by rw [ba_size]; exact h2, by simpa using h3⟩]
theorem trimLeft_g (n : Nat) (l cs : List UInt8) (h2 : cs.length < 4294967281) (h3 : lowB cs = true) :
    (ev Tryz.prog tab (n + 1)).callA 82 [strL l, strL cs] = some [strL (Lib.trimLeftS l cs)] := by
  rw [callG n (g := gTrimLeft) (by kernel_rfl)]
  show (if (ByteArray.mk cs.toArray).size < 4294967281 ∧ lowB (ByteArray.mk cs.toArray).data.toList = true then some [strL (Lib.trimLeftS (ByteArray.mk l.toArray).data.toList (ByteArray.mk cs.toArray).data.toList)] else none) = _
  rw [if_pos ⟨by rw [ba_size]; exact h2, by simpa using h3⟩]
def digB (l : List UInt8) : Bool := !l.isEmpty && l.all digC
theorem digits_l (n : Nat) (l : List UInt8) (hl : l.length ≤ 9223372036854775806) :
    (ev Tryz.prog tab (n + 2)).callA 81 [strL l] = some [.val (.bool (digB l))] := by
  have hS : ∀ m, strL m = .val (.string ⟨m.toArray⟩) := fun _ => rfl
  have ht := trim_g n l [48, 49, 50, 51, 52, 53, 54, 55, 56, 57] (by omega) (by decide) (by decide)
  simp only [hS] at ht
  have hn := trimS_nil l [48, 49, 50, 51, 52, 53, 54, 55, 56, 57]
  simp only [ten_digs] at hn
  rw [callA_fn rfl Tryz.func81 rfl rfl rfl]
  cases hcs : l with
  | nil => simp [-frame, -getElem?_pos, -step_some, stepN, Tryz.f81, hS, ba_list, digB]
  | cons x t =>
    rw [← hcs]
    have hne : ¬ l = [] := by rw [hcs]; simp
    have hne' : l.isEmpty = false := by rw [hcs]; rfl
    by_cases hall : l.all digC = true
    · have h0 := hn.2 hall
      rw [h0] at ht
      simp [-frame, -getElem?_pos, -step_some, stepN, Tryz.f81, hS, ba_list, digB, hne, hne', ht, hall]
    · have h0 : ¬ Lib.trimS l [48, 49, 50, 51, 52, 53, 54, 55, 56, 57] = [] := fun h => hall (hn.1 h)
      have hall' : l.all digC = false := by simpa using hall
      simp [-frame, -getElem?_pos, -step_some, stepN, Tryz.f81, hS, ba_list, digB, hne, hne', ht, hall', h0]
end Go.Proofs.YtlhjljplfmmoaaaGreatDoor.Ev
