/- The normal form of a short answer, in plain terms. -/
import Derived.RowKit
set_option linter.unusedSimpArgs false
set_option linter.unusedVariables false
namespace Go.Proofs.YtlhjljplfmmoaaaGreatDoor.Kn
def alnum (c : UInt8) : Bool := (decide (97 ≤ c.toNat) && decide (c.toNat ≤ 122)) || (decide (48 ≤ c.toNat) && decide (c.toNat ≤ 57))
def upper (c : UInt8) : Bool := decide (65 ≤ c.toNat) && decide (c.toNat ≤ 90)
def last32 (b : List UInt8) : Bool := b.getLast? == some 32
def nstep (b : List UInt8) (c : UInt8) : List UInt8 :=
  if upper c then b ++ [c + 32] else if alnum c then b ++ [c] else if c == 32 && !b.isEmpty && !last32 b then b ++ [c] else b
def trim (b : List UInt8) : List UInt8 := if last32 b then b.dropLast else b
def normal (s : List UInt8) : List UInt8 := trim (s.foldl nstep [])
/-- Each byte may stand where it stands, so the next one is no matter. -/
def Sh (b : List UInt8) : Prop := ∀ (i : Nat) (c : UInt8), b[i]? = some c → alnum c = true ∨ (c = 32 ∧ 0 < i ∧ b[i - 1]? ≠ some 32)
theorem alnum_upper {c : UInt8} (h : alnum c = true) : upper c = false := by
  simp only [alnum, upper, Bool.or_eq_true, Bool.and_eq_true, decide_eq_true_eq, Bool.and_eq_false_iff, decide_eq_false_iff_not] at *
  omega
theorem alnum_ne {c : UInt8} (h : alnum c = true) : c ≠ 32 := by
  rintro rfl
  simp [alnum] at h
theorem upper_add {c : UInt8} (h : upper c = true) : (c + 32).toNat = c.toNat + 32 := by
  simp only [upper, Bool.and_eq_true, decide_eq_true_eq] at h
  rw [UInt8.toNat_add]
  have : (32 : UInt8).toNat = 32 := rfl
  omega
theorem upper_alnum {c : UInt8} (h : upper c = true) : alnum (c + 32) = true := by
  have h1 := upper_add h
  simp only [alnum, upper, Bool.or_eq_true, Bool.and_eq_true, decide_eq_true_eq] at *
  omega
theorem sh_snoc {b : List UInt8} {c : UInt8} (h : Sh b) (hc : alnum c = true ∨ (c = 32 ∧ b ≠ [] ∧ last32 b = false)) : Sh (b ++ [c]) := by
  intro i d hd
  rw [List.getElem?_append] at hd
  split at hd
  · rename_i hlt
    rcases h i d hd with h | ⟨h1, h2, h3⟩
    · exact .inl h
    · refine .inr ⟨h1, h2, ?_⟩
      rw [List.getElem?_append_left (by omega)]
      exact h3
  · rename_i hge
    have hi : i = b.length := by
      have := (List.getElem?_eq_some_iff.1 hd).1
      simp at this
      omega
    subst hi
    simp at hd
    subst hd
    rcases hc with hc | ⟨h1, h2, h3⟩
    · exact .inl hc
    · have hpos : 0 < b.length := List.length_pos_iff.2 h2
      refine .inr ⟨h1, hpos, ?_⟩
      rw [List.getElem?_append_left (by omega)]
      intro he
      unfold last32 at h3
      rw [List.getLast?_eq_getElem?, he] at h3
      simp at h3
theorem sh_step {b : List UInt8} (c : UInt8) (h : Sh b) : Sh (nstep b c) := by
  unfold nstep
  split
  · rename_i hu; exact sh_snoc h (.inl (upper_alnum hu))
  · split
    · rename_i ha; exact sh_snoc h (.inl ha)
    · split
      · rename_i h3
        simp only [Bool.and_eq_true, beq_iff_eq, Bool.not_eq_true', List.isEmpty_eq_false_iff] at h3
        exact sh_snoc h (.inr ⟨h3.1.1, h3.1.2, h3.2⟩)
      · exact h
theorem sh_fold : ∀ (s b : List UInt8), Sh b → Sh (s.foldl nstep b)
  | [], _, h => h
  | c :: s, b, h => sh_fold s _ (sh_step c h)
theorem sh_nil : Sh [] := fun i c h => by simp at h
theorem sh_drop {b : List UInt8} (h : Sh b) : Sh b.dropLast := by
  intro i c hc
  have hlt := (List.getElem?_eq_some_iff.1 hc).1
  rw [List.length_dropLast] at hlt
  rw [List.getElem?_dropLast, if_pos (by omega)] at hc
  rcases h i c hc with h | ⟨h1, h2, h3⟩
  · exact .inl h
  · refine .inr ⟨h1, h2, ?_⟩
    rw [List.getElem?_dropLast, if_pos (by omega)]
    exact h3
/-- What a normal form looks like. -/
def Nf (t : List UInt8) : Prop := Sh t ∧ last32 t = false
theorem nf_normal (s : List UInt8) : Nf (normal s) := by
  have h := sh_fold s [] sh_nil
  unfold normal
  generalize s.foldl nstep [] = b at h
  unfold trim
  split
  · rename_i hl
    refine ⟨sh_drop h, ?_⟩
    unfold last32 at *
    simp only [beq_iff_eq] at hl
    rw [List.getLast?_eq_getElem?] at hl
    rcases h _ _ hl with h1 | ⟨_, h2, h3⟩
    · exact absurd rfl (alnum_ne h1)
    · rw [beq_eq_false_iff_ne, List.getLast?_eq_getElem?, List.getElem?_dropLast, List.length_dropLast, if_pos (by omega)]
      exact h3
  · rename_i hl
    exact ⟨h, by simpa using hl⟩
theorem fold_self {t : List UInt8} (h : Sh t) : ∀ k, k ≤ t.length → (t.take k).foldl nstep [] = t.take k := by
  intro k
  induction k with
  | zero => intro _; simp
  | succ k ih =>
    intro hk
    have ih := ih (by omega)
    have hk' : k < t.length := hk
    rw [List.take_succ_eq_append_getElem hk', List.foldl_append, ih, List.foldl_cons, List.foldl_nil]
    rcases h k t[k] (List.getElem?_eq_getElem (by omega)) with h1 | ⟨h1, h2, h3⟩
    · unfold nstep
      rw [if_neg (by simp [alnum_upper h1]), if_pos h1]
    · have e1 : upper t[k] = false := by rw [h1]; rfl
      have e2 : alnum t[k] = false := by rw [h1]; rfl
      have e3 : (t.take k).isEmpty = false := by
        rw [List.isEmpty_eq_false_iff]
        intro he
        have := congrArg List.length he
        rw [List.length_take, Nat.min_eq_left (by omega)] at this
        simp only [List.length_nil] at this
        omega
      have e4 : last32 (t.take k) = false := by
        unfold last32
        rw [beq_eq_false_iff_ne, List.getLast?_eq_getElem?, List.length_take, Nat.min_eq_left (by omega), List.getElem?_take, if_pos (by omega)]
        exact h3
      unfold nstep
      rw [if_neg (by simp [e1]), if_neg (by simp [e2]), if_pos (by simp [h1, e3, e4])]
theorem normal_self {t : List UInt8} (h : Nf t) : normal t = t := by
  have := fold_self h.1 t.length (Nat.le_refl _)
  rw [List.take_length] at this
  unfold normal
  rw [this]
  unfold trim
  rw [if_neg (by simp [h.2])]
theorem step_length (b : List UInt8) (c : UInt8) : (nstep b c).length ≤ b.length + 1 := by
  unfold nstep
  split <;> (try split) <;> (try split) <;> simp
theorem fold_length : ∀ (s b : List UInt8), (s.foldl nstep b).length ≤ b.length + s.length
  | [], _ => by simp
  | c :: s, b => by
    have h1 := fold_length s (nstep b c)
    have h2 := step_length b c
    rw [List.foldl_cons, List.length_cons]
    omega
theorem normal_length (s : List UInt8) : (normal s).length ≤ s.length := by
  have h := fold_length s []
  unfold normal trim
  split
  · rw [List.length_dropLast]; simp at h; omega
  · simpa using h
end Go.Proofs.YtlhjljplfmmoaaaGreatDoor.Kn
