/- Limbs of a number; groups of nine digits. -/
import Derived.Lib.ItoaNum
set_option linter.unusedSimpArgs false
set_option linter.unusedVariables false
namespace Go.Proofs.YtlhjljplfmmoaaaGreatDoor.Nb
/-- One limb's bound. -/
def B : Nat := 4294967296
theorem B_eq : B = 4294967296 := rfl
theorem B_pos : 0 < B := by decide
theorem Bp (k : Nat) : 0 < B ^ k := Nat.pow_pos B_pos
def val : List Nat → Nat
  | [] => 0
  | x :: t => x + B * val t
def LB (l : List Nat) : Prop := ∀ x, x ∈ l → x < B
theorem LB_nil : LB [] := fun x hx => by simp at hx
theorem LB_cons {x : Nat} {l : List Nat} (hx : x < B) (h : LB l) : LB (x :: l) := fun y hy => by
  rcases List.mem_cons.1 hy with rfl | hy
  · exact hx
  · exact h y hy
theorem LB.head {x : Nat} {l : List Nat} (h : LB (x :: l)) : x < B := h x List.mem_cons_self
theorem LB.tail {x : Nat} {l : List Nat} (h : LB (x :: l)) : LB l := fun y hy => h y (List.mem_cons_of_mem _ hy)
theorem LB.get {l : List Nat} (h : LB l) {i x : Nat} (hx : l[i]? = some x) : x < B := h x (List.mem_of_getElem? hx)
theorem LB.append {l m : List Nat} (h : LB l) (h' : LB m) : LB (l ++ m) := fun x hx => by
  rcases List.mem_append.1 hx with hx | hx
  · exact h x hx
  · exact h' x hx
theorem LB.snoc {l : List Nat} (h : LB l) {x : Nat} (hx : x < B) : LB (l ++ [x]) := h.append (LB_cons hx LB_nil)
theorem LB.take {l : List Nat} (h : LB l) (k : Nat) : LB (l.take k) := fun x hx => h x (List.mem_of_mem_take hx)
theorem LB.drop {l : List Nat} (h : LB l) (k : Nat) : LB (l.drop k) := fun x hx => h x (List.mem_of_mem_drop hx)
theorem LB.set {l : List Nat} (h : LB l) {x : Nat} (hx : x < B) (k : Nat) : LB (l.set k x) := fun y hy => by
  rcases List.mem_or_eq_of_mem_set hy with hy | rfl
  · exact h y hy
  · exact hx
theorem LB_zero (k : Nat) : LB (List.replicate k 0) := fun x hx => by
  rw [List.eq_of_mem_replicate hx]; exact B_pos
theorem val_zero (k : Nat) : val (List.replicate k 0) = 0 := by
  induction k with
  | zero => rfl
  | succ k ih => rw [List.replicate_succ, val, ih]; omega
theorem val_append (l m : List Nat) : val (l ++ m) = val l + B ^ l.length * val m := by
  induction l with
  | nil => simp [val]
  | cons x t ih =>
    simp only [List.cons_append, val, ih, List.length_cons, Nat.pow_succ, Nat.mul_add]
    rw [Nat.mul_comm (B ^ t.length) B, Nat.mul_assoc]; omega
theorem val_snoc (l : List Nat) (x : Nat) : val (l ++ [x]) = val l + B ^ l.length * x := by rw [val_append]; simp [val]
theorem val_take_succ {l : List Nat} {i x : Nat} (hx : l[i]? = some x) : val (l.take (i + 1)) = val (l.take i) + B ^ i * x := by
  rw [List.take_add_one, hx]
  have hl : i < l.length := (List.getElem?_eq_some_iff.1 hx).1
  show val (l.take i ++ [x]) = _
  rw [val_snoc, List.length_take, Nat.min_eq_left (by omega)]
theorem val_lt {l : List Nat} (h : LB l) : val l < B ^ l.length := by
  induction l with
  | nil => simp [val]
  | cons x t ih =>
    have h1 := ih h.tail
    have h2 := h.head
    simp only [val, List.length_cons, Nat.pow_succ]
    have : B * (val t + 1) ≤ B * B ^ t.length := Nat.mul_le_mul_left _ h1
    rw [Nat.mul_comm (B ^ t.length) B]
    rw [Nat.mul_add] at this
    omega
theorem val_take_lt {l : List Nat} (h : LB l) (i : Nat) : val (l.take i) < B ^ i := by
  refine Nat.lt_of_lt_of_le (val_lt (h.take i)) (Nat.pow_le_pow_right B_pos ?_)
  rw [List.length_take]; omega
theorem val_split (l : List Nat) (i : Nat) (hi : i ≤ l.length) : val l = val (l.take i) + B ^ i * val (l.drop i) := by
  have := val_append (l.take i) (l.drop i)
  rw [List.take_append_drop, List.length_take, Nat.min_eq_left hi] at this
  exact this
theorem val_set {l : List Nat} {i y : Nat} (x : Nat) (hy : l[i]? = some y) : val (l.set i x) + B ^ i * y = val l + B ^ i * x := by
  induction l generalizing i with
  | nil => simp at hy
  | cons z t ih =>
    cases i with
    | zero =>
      obtain rfl : z = y := by simpa using hy
      simp [val]; omega
    | succ i =>
      have h1 := ih (i := i) (by simpa using hy)
      simp only [List.set_cons_succ, val, Nat.pow_succ]
      have h2 := congrArg (B * ·) h1
      simp only [Nat.mul_add] at h2
      rw [Nat.mul_comm (B ^ i) B, Nat.mul_assoc, Nat.mul_assoc]
      omega
/-- The limbs of a number; the highest is not 0. -/
def ofN (n : Nat) : List Nat := if h : n = 0 then [] else (n % B) :: ofN (n / B)
termination_by n
decreasing_by exact Nat.div_lt_self (by omega) (by decide)
theorem ofN_zero : ofN 0 = [] := by unfold ofN; simp
theorem ofN_pos {n : Nat} (h : n ≠ 0) : ofN n = (n % B) :: ofN (n / B) := by conv => lhs; unfold ofN; rw [dif_neg h]
theorem LB_ofN (n : Nat) : LB (ofN n) := by
  induction n using Nat.strongRecOn with
  | ind n ih =>
    by_cases h : n = 0
    · rw [h, ofN_zero]; exact LB_nil
    · rw [ofN_pos h]
      exact LB_cons (Nat.mod_lt _ B_pos) (ih _ (Nat.div_lt_self (by omega) (by decide)))
theorem val_ofN (n : Nat) : val (ofN n) = n := by
  induction n using Nat.strongRecOn with
  | ind n ih =>
    by_cases h : n = 0
    · rw [h, ofN_zero]; rfl
    · rw [ofN_pos h, val, ih _ (Nat.div_lt_self (by omega) (by decide)), Nat.mod_add_div]
theorem ofN_eq_nil {n : Nat} : ofN n = [] ↔ n = 0 := by
  constructor
  · intro h
    have := val_ofN n
    rw [h] at this
    exact this.symm
  · rintro rfl; exact ofN_zero
/-- A list whose highest limb counts is the limbs of its number. -/
theorem eq_ofN {l : List Nat} (h : LB l) (ht : l = [] ∨ B ^ (l.length - 1) ≤ val l) : l = ofN (val l) := by
  induction l with
  | nil => simp [val, ofN_zero]
  | cons x t ih =>
    rcases ht with ht | ht
    · simp at ht
    · have hx := h.head
      have hne : val (x :: t) ≠ 0 := by
        have := Bp ((x :: t).length - 1)
        omega
      rw [ofN_pos hne]
      have hm : val (x :: t) % B = x := by rw [val, Nat.add_mul_mod_self_left, Nat.mod_eq_of_lt hx]
      have hd : val (x :: t) / B = val t := by rw [val, Nat.add_mul_div_left _ _ B_pos, Nat.div_eq_of_lt hx, Nat.zero_add]
      rw [hm, hd]
      congr 1
      apply ih h.tail
      cases t with
      | nil => exact .inl rfl
      | cons y u =>
        right
        have h1 : B ^ ((x :: y :: u).length - 1) / B ≤ val (x :: y :: u) / B := Nat.div_le_div_right ht
        rw [hd] at h1
        simpa [Nat.pow_succ, Nat.mul_div_cancel _ B_pos] using h1
theorem ofN_low {n : Nat} (h : n ≠ 0) : B ^ ((ofN n).length - 1) ≤ n := by
  induction n using Nat.strongRecOn with
  | ind n ih =>
    rw [ofN_pos h]
    by_cases h1 : n / B = 0
    · rw [h1, ofN_zero]; simp; omega
    · have h2 := ih (n / B) (Nat.div_lt_self (by omega) (by decide)) h1
      have h3 : (ofN (n / B)).length ≠ 0 := by
        intro h3
        exact h1 (ofN_eq_nil.1 (List.eq_nil_of_length_eq_zero h3))
      simp only [List.length_cons, Nat.add_sub_cancel]
      obtain ⟨k, hk⟩ : ∃ k, (ofN (n / B)).length = k + 1 := ⟨(ofN (n / B)).length - 1, by omega⟩
      rw [hk] at h2 ⊢
      rw [Nat.pow_succ]
      exact (Nat.le_div_iff_mul_le B_pos).1 h2
theorem ofN_lt (n : Nat) : n < B ^ (ofN n).length := by
  have := val_lt (LB_ofN n)
  rwa [val_ofN] at this
theorem length_ofN_le {n k : Nat} : (ofN n).length ≤ k ↔ n < B ^ k := by
  constructor
  · intro h
    exact Nat.lt_of_lt_of_le (ofN_lt n) (Nat.pow_le_pow_right B_pos h)
  · intro h
    by_cases h0 : n = 0
    · rw [h0, ofN_zero]; simp
    · have h1 := ofN_low h0
      have h2 : (ofN n).length - 1 < k := (Nat.pow_lt_pow_iff_right (by decide : 1 < B)).1 (Nat.lt_of_le_of_lt h1 h)
      omega
theorem ofN_top {n x : Nat} (h : (ofN n)[(ofN n).length - 1]? = some x) : x ≠ 0 := by
  rintro rfl
  by_cases h0 : n = 0
  · rw [h0, ofN_zero] at h; simp at h
  · have hl : (ofN n).length ≠ 0 := fun hl => h0 (ofN_eq_nil.1 (List.eq_nil_of_length_eq_zero hl))
    have h1 := val_take_succ h
    rw [show (ofN n).length - 1 + 1 = (ofN n).length by omega, List.take_length, val_ofN, Nat.mul_zero, Nat.add_zero] at h1
    have h2 := val_take_lt (LB_ofN n) ((ofN n).length - 1)
    have h3 := ofN_low h0
    omega
/-- Cutting the high zeros off. -/
theorem trim_fin {l : List Nat} (h : LB l) {n : Nat} (hn : n ≤ l.length) (hv : val (l.take n) = val l) (ht : n = 0 ∨ ∃ x, l[n - 1]? = some x ∧ x ≠ 0) : l.take n = ofN (val l) := by
  rw [← hv]
  apply eq_ofN (h.take n)
  by_cases hn0 : n = 0
  · left; simp [hn0]
  rcases ht with rfl | ⟨x, hx, h0⟩
  · left; simp
  · right
    have h1 : 0 < n := by omega
    have h2 := val_take_succ hx
    rw [show n - 1 + 1 = n by omega] at h2
    rw [List.length_take, Nat.min_eq_left hn, h2]
    have : B ^ (n - 1) * 1 ≤ B ^ (n - 1) * x := Nat.mul_le_mul_left _ (by omega)
    omega
theorem trim_step {l : List Nat} {n : Nat} (hn : 0 < n) (hv : val (l.take n) = val l) (hx : l[n - 1]? = some 0) : val (l.take (n - 1)) = val l := by
  have h2 := val_take_succ hx
  rw [show n - 1 + 1 = n by omega, Nat.mul_zero, Nat.add_zero] at h2
  rw [← h2, hv]
/-- One column of a sum. -/
theorem column {V c d i : Nat} (h : V + B ^ i * c = d) : V + B ^ i * (c % B) + B ^ (i + 1) * (c / B) = d := by
  rw [← h, Nat.pow_succ, Nat.mul_assoc, Nat.add_assoc, ← Nat.mul_add, Nat.mod_add_div]
theorem eq_of_lb {l m : List Nat} (h : LB l) (h' : LB m) (hl : l.length = m.length) (hv : val l = val m) : l = m := by
  induction l generalizing m with
  | nil =>
    cases m with
    | nil => rfl
    | cons _ _ => simp at hl
  | cons x t ih =>
    cases m with
    | nil => simp at hl
    | cons y u =>
      simp only [val] at hv
      have hx := h.head
      have hy := h'.head
      have h1 : x = y := by
        have := congrArg (· % B) hv
        simpa [Nat.add_mul_mod_self_left, Nat.mod_eq_of_lt hx, Nat.mod_eq_of_lt hy] using this
      subst h1
      have h2 : val t = val u := Nat.eq_of_mul_eq_mul_left B_pos (by omega)
      rw [ih h.tail h'.tail (by simpa using hl) h2]
end Go.Proofs.YtlhjljplfmmoaaaGreatDoor.Nb
set_option linter.unusedSimpArgs false
set_option linter.unusedVariables false
namespace Go.Proofs.YtlhjljplfmmoaaaGreatDoor.Nb
open Go.Lib
def T : Nat := 1000000000
theorem T_pos : 0 < T := by decide
/-- The groups of nine digits, the lowest first. -/
def partsOf (n : Nat) : List Nat := if h : n = 0 then [] else (n % T) :: partsOf (n / T)
termination_by n
decreasing_by exact Nat.div_lt_self (by omega) (by decide)
theorem partsOf_zero : partsOf 0 = [] := by unfold partsOf; simp
theorem partsOf_pos {n : Nat} (h : n ≠ 0) : partsOf n = (n % T) :: partsOf (n / T) := by conv => lhs; unfold partsOf; rw [dif_neg h]
theorem partsOf_nil {n : Nat} : partsOf n = [] ↔ n = 0 := by
  constructor
  · intro h
    by_cases h0 : n = 0
    · exact h0
    · rw [partsOf_pos h0] at h; simp at h
  · rintro rfl; exact partsOf_zero
theorem drop_parts (k : Nat) : ∀ n, (partsOf n).drop k = partsOf (n / T ^ k) := by
  induction k with
  | zero => intro n; simp
  | succ k ih =>
    intro n
    by_cases h : n = 0
    · rw [h, partsOf_zero, Nat.zero_div, partsOf_zero]; rfl
    · rw [partsOf_pos h, List.drop_succ_cons, ih, Nat.div_div_eq_div_mul, Nat.pow_succ, Nat.mul_comm]
theorem len_parts_le (k : Nat) : ∀ n, n < T ^ k → (partsOf n).length ≤ k := by
  induction k with
  | zero => intro n h; have : n = 0 := by simpa using h
            rw [this, partsOf_zero]; simp
  | succ k ih =>
    intro n h
    by_cases h0 : n = 0
    · rw [h0, partsOf_zero]; simp
    · rw [partsOf_pos h0, List.length_cons]
      have := ih (n / T) (Nat.div_lt_of_lt_mul (by rw [Nat.pow_succ, Nat.mul_comm] at h; exact h))
      omega
theorem parts_len {n : Nat} : (partsOf n).length ≤ 2 * (ofN n).length := by
  apply len_parts_le
  refine Nat.lt_of_lt_of_le (ofN_lt n) ?_
  rw [Nat.pow_mul]
  exact Nat.pow_le_pow_left (by decide) _
theorem dec_step {n : Nat} (h : 10 ≤ n) : decDigits n = decDigits (n / 10) ++ [UInt8.ofNat (48 + n % 10)] := by
  rw [decDigits, dif_neg (by omega)]
theorem dec_small {n : Nat} (h : n < 10) : decDigits n = [UInt8.ofNat (48 + n)] := by rw [decDigits, dif_pos h]
/-- k digits of a number. -/
def padD : Nat → Nat → List UInt8
  | 0, _ => []
  | k + 1, b => padD k (b / 10) ++ [UInt8.ofNat (48 + b % 10)]
theorem dec_pad (k : Nat) : ∀ a b, a ≠ 0 → b < 10 ^ k → decDigits (a * 10 ^ k + b) = decDigits a ++ padD k b := by
  induction k with
  | zero =>
    intro a b ha hb
    have : b = 0 := by simpa using hb
    subst this
    simp [padD]
  | succ k ih =>
    intro a b ha hb
    have h1 : 1 ≤ a * 10 ^ k := Nat.mul_pos (by omega) (Nat.pow_pos (by decide))
    have h2 : a * 10 ^ (k + 1) = a * 10 ^ k * 10 := by rw [Nat.pow_succ, Nat.mul_assoc]
    rw [dec_step (by omega), padD, ← List.append_assoc, ← ih a (b / 10) ha (by rw [Nat.pow_succ] at hb; omega)]
    congr 2
    · congr 1; omega
    · congr 2; omega
theorem padD_zero (k : Nat) : padD k 0 = List.replicate k 48 := by
  induction k with
  | zero => rfl
  | succ k ih => rw [padD, ih, List.replicate_succ']; rfl
theorem padD_eq (k : Nat) : ∀ b, b < 10 ^ (k + 1) → padD (k + 1) b = List.replicate (k + 1 - (decDigits b).length) 48 ++ decDigits b := by
  induction k with
  | zero =>
    intro b hb
    have hb' : b < 10 := by simpa using hb
    rw [dec_small hb', padD, padD, Nat.mod_eq_of_lt hb']
    rfl
  | succ k ih =>
    intro b hb
    rw [padD]
    by_cases h : b < 10
    · rw [show b / 10 = 0 by omega, padD_zero, dec_small h, Nat.mod_eq_of_lt h]
      rfl
    · rw [ih (b / 10) (by rw [Nat.pow_succ] at hb; omega), dec_step (n := b) (by omega), List.append_assoc, List.length_append]
      congr 2
      simp
/-- One group more. -/
theorem dec_group {a b : Nat} (ha : a ≠ 0) (hb : b < T) : decDigits (a * T + b) = decDigits a ++ (List.replicate (9 - (decDigits b).length) 48 ++ decDigits b) := by
  rw [← padD_eq 8 b hb]
  exact dec_pad 9 a b ha hb
theorem dec_len {b : Nat} (hb : b < T) : (decDigits b).length ≤ 9 := by
  have h := congrArg List.length (padD_eq 8 b hb)
  have h9 : ∀ k b, (padD k b).length = k := by
    intro k
    induction k with
    | zero => intro b; rfl
    | succ k ih => intro b; rw [padD, List.length_append, ih]; rfl
  rw [h9, List.length_append, List.length_replicate] at h
  omega
end Go.Proofs.YtlhjljplfmmoaaaGreatDoor.Nb
