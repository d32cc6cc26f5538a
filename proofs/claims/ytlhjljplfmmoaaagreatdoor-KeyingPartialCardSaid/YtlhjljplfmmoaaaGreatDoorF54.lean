/- What keying.Score reckons lies within bounds; the key gets all points. -/
import Derived.Test.YtlhjljplfmmoaaaGreatDoorF53
namespace Go.Proofs.YtlhjljplfmmoaaaGreatDoor.Ev
open Go
set_option linter.unusedSimpArgs false
set_option linter.unusedVariables false
set_option maxRecDepth 10000
set_option maxHeartbeats 4000000
theorem share_bounds {p m d : Int} (hp : 0 ≤ p) (hm : m ≤ d) (hd : 0 < d) : 0 ≤ shareI p m d ∧ shareI p m d ≤ p := by
  unfold shareI
  split
  · rw [Int.mul_zero, Int.zero_tdiv]; exact ⟨Int.le_refl _, hp⟩
  · rename_i h
    have h0 : 0 ≤ p * m := Int.mul_nonneg hp (by omega)
    refine ⟨Int.tdiv_nonneg h0 (by omega), ?_⟩
    rw [Int.tdiv_eq_ediv_of_nonneg h0]
    have h1 : p * m ≤ p * d := Int.mul_le_mul_of_nonneg_left hm hp
    have h2 : p * m / d ≤ p * d / d := Int.ediv_le_ediv hd h1
    rw [Int.mul_ediv_cancel p (by omega)] at h2
    exact h2
theorem share_full {p d : Int} (hd : 0 < d) : shareI p d d = p := by
  unfold shareI
  rw [if_neg (by omega), Int.mul_tdiv_cancel p (by omega)]
theorem memB_iff {cs : List Int} {c : Int} : memB cs c = true ↔ c ∈ cs := by
  unfold memB
  rw [List.any_eq_true]
  constructor
  · rintro ⟨x, hx, h⟩
    have : c = x := by simpa using h
    rw [this]; exact hx
  · intro h
    exact ⟨c, h, by simp⟩
theorem cntB_congr {p q : Int → Bool} : ∀ {l : List Int}, (∀ x, x ∈ l → p x = q x) → cntB p l = cntB q l
  | [], _ => rfl
  | x :: t, h => by
    unfold cntB
    rw [h x List.mem_cons_self, cntB_congr fun y hy => h y (List.mem_cons_of_mem _ hy)]
theorem cntB_mem : ∀ (l cs : List Int), l.Nodup → cntB (memB cs) l ≤ cs.length
  | [], cs, _ => Nat.zero_le _
  | x :: t, cs, h => by
    have hx := (List.nodup_cons.1 h).1
    have ht := (List.nodup_cons.1 h).2
    unfold cntB
    by_cases hm : x ∈ cs
    · rw [if_pos (memB_iff.2 hm)]
      have h1 : cntB (memB cs) t = cntB (memB (cs.erase x)) t := cntB_congr fun y hy => by
        rw [Bool.eq_iff_iff, memB_iff, memB_iff]
        have hne : y ≠ x := by rintro rfl; exact hx hy
        exact (List.mem_erase_of_ne hne).symm
      have h2 := cntB_mem t (cs.erase x) ht
      rw [List.length_erase_of_mem hm] at h2
      have h3 : 0 < cs.length := List.length_pos_of_mem hm
      omega
    · rw [if_neg (by rw [memB_iff]; exact hm)]
      have := cntB_mem t cs ht
      omega
theorem up_lt {l : List Int} (h : upB l = true) : ∀ (i j : Nat) (x y : Int), i < j → l[i]? = some x → l[j]? = some y → x < y := by
  intro i j
  induction j with
  | zero => intro x y h; omega
  | succ j ih =>
    intro x y hij hx hy
    have hlt := (List.getElem?_eq_some_iff.1 hy).1
    obtain ⟨z, hz⟩ : ∃ z, l[j]? = some z := ⟨l[j], by simp⟩
    have hzy : z < y := by
      have := List.all_eq_true.1 h (j + 1) (List.mem_range.2 hlt)
      unfold upAt at this
      rw [hy, Nat.add_sub_cancel, hz] at this
      simpa using this
    by_cases hij' : i = j
    · subst hij'
      rw [hx] at hz
      cases hz
      exact hzy
    · have := ih x z (by omega) hx hz
      omega
theorem up_nodup {l : List Int} (h : upB l = true) : l.Nodup := by
  rw [List.nodup_iff_pairwise_ne] 
  rw [List.pairwise_iff_getElem]
  intro i j hi hj hij
  have := up_lt h i j _ _ hij (List.getElem?_eq_getElem hi) (List.getElem?_eq_getElem hj)
  omega
theorem cnt_all {cs : List Int} : ∀ {l : List Int}, (∀ x, x ∈ l → x ∈ cs) → cntB (memB cs) l = l.length
  | [], _ => rfl
  | x :: t, h => by
    unfold cntB
    rw [if_pos (memB_iff.2 (h x List.mem_cons_self)), cnt_all fun y hy => h y (List.mem_cons_of_mem _ hy), List.length_cons]
    omega
theorem idxI_first : ∀ (l : List Int) (k : Int) (i : Nat) (x : Int), l.Nodup → l[i]? = some x → idxI x l k = k + i
  | [], _, _, _, _, h => by simp at h
  | y :: t, k, 0, x, _, h => by
    simp at h
    unfold idxI
    rw [if_pos h.symm]
    simp
  | y :: t, k, i + 1, x, hn, h => by
    simp at h
    have hne : ¬ x = y := by
      rintro rfl
      exact (List.nodup_cons.1 hn).1 (List.mem_of_getElem? h)
    unfold idxI
    rw [if_neg hne, idxI_first t (k + 1) i x (List.nodup_cons.1 hn).2 h]
    push_cast
    omega
theorem ordR_all {f : Int → Int} : ∀ {l : List Int}, (∀ (i j : Nat) (x y : Int), i < j → l[i]? = some x → l[j]? = some y → f x < f y) → ordR f l = ordA l
  | [], _ => rfl
  | a :: t, h => by
    unfold ordR ordA
    have h1 : cntB (fun b => decide (f a < f b)) t = t.length := by
      have : ∀ (u : List Int), (∀ b, b ∈ u → f a < f b) → cntB (fun b => decide (f a < f b)) u = u.length := by
        intro u
        induction u with
        | nil => intro _; rfl
        | cons b u ih =>
          intro hu
          unfold cntB
          rw [if_pos (by simpa using hu b List.mem_cons_self), ih fun c hc => hu c (List.mem_cons_of_mem _ hc), List.length_cons]
          omega
      refine this t fun b hb => ?_
      obtain ⟨j, hj⟩ := List.mem_iff_getElem?.1 hb
      exact h 0 (j + 1) a b (by omega) rfl (by simpa using hj)
    rw [h1, ordR_all fun i j x y hij hx hy => h (i + 1) (j + 1) x y (by omega) (by simpa using hx) (by simpa using hy)]
theorem seen_get : ∀ (l : List Int) (s : List Bool) (j : Nat), (∀ c, c ∈ l → 0 ≤ c) → (s[j]? = some true ∨ (j < s.length ∧ (j : Int) ∈ l)) → (seenF l s)[j]? = some true
  | [], s, j, _, h => by
    rcases h with h | ⟨_, h⟩
    · exact h
    · simp at h
  | c :: t, s, j, hc, h => by
    show (seenF t (s.set c.toNat true))[j]? = some true
    have hc0 := hc c List.mem_cons_self
    refine seen_get t _ j (fun d hd => hc d (List.mem_cons_of_mem _ hd)) ?_
    rcases h with h | ⟨hlt, h⟩
    · left
      rw [List.getElem?_set]
      have hj := (List.getElem?_eq_some_iff.1 h).1
      split
      · rename_i e; rw [if_pos (by omega)]
      · exact h
    · rcases List.mem_cons.1 h with h | h
      · left
        rw [List.getElem?_set, if_pos (by omega), if_pos (by omega)]
      · right
        exact ⟨by simpa using hlt, h⟩
theorem ins_perm' (x : Int) : ∀ l : List Int, (ins x l).Perm (x :: l)
  | [] => List.Perm.refl _
  | y :: t => by
    unfold ins
    split
    · exact List.Perm.refl _
    · exact ((ins_perm' x t).cons y).trans (List.Perm.swap x y t)
theorem isort_perm' : ∀ l : List Int, (isort l).Perm l
  | [] => List.Perm.refl _
  | x :: t => (ins_perm' x (isort t)).trans ((isort_perm' t).cons x)
theorem perm_seen {l : List Int} {n : Nat} (hr : risingB (isort l) 0 ((n : Int) - 1) = true) (hl : l.length = n) : l.all (inB n) = true ∧ rightB 3 n l = true ∧ l.Nodup := by
  obtain ⟨h1, h2⟩ := rise_up hr
  have hp := isort_perm' l
  have hlen : (isort l).length = n := by rw [isort_length]; exact hl
  have hval : ∀ (i : Nat) (z : Int), (isort l)[i]? = some z → z = i := by
    have lo : ∀ (i : Nat) (z : Int), (isort l)[i]? = some z → (i : Int) ≤ z := by
      intro i
      induction i with
      | zero => intro z hz; exact (inB_iff (List.all_eq_true.1 h1 z (List.mem_of_getElem? hz))).1
      | succ i ih =>
        intro z hz
        have hlt := (List.getElem?_eq_some_iff.1 hz).1
        obtain ⟨y, hy⟩ : ∃ y, (isort l)[i]? = some y := ⟨(isort l)[i], by simp⟩
        have := up_lt h2 i (i + 1) y z (by omega) hy hz
        have := ih y hy
        push_cast
        omega
    have hi : ∀ (k i : Nat) (z : Int), i + k = n → (isort l)[i]? = some z → z + k ≤ n := by
      intro k
      induction k with
      | zero => intro i z hk hz; have := (List.getElem?_eq_some_iff.1 hz).1; omega
      | succ k ih =>
        intro i z hk hz
        by_cases hk0 : k = 0
        · subst hk0
          have := (inB_iff (List.all_eq_true.1 h1 z (List.mem_of_getElem? hz))).2
          omega
        · obtain ⟨y, hy⟩ : ∃ y, (isort l)[i + 1]? = some y := ⟨(isort l)[i + 1], by simp⟩
          have h3 := up_lt h2 i (i + 1) z y (by omega) hz hy
          have h4 := ih (i + 1) y (by omega) hy
          push_cast
          omega
    intro i z hz
    have hlt := (List.getElem?_eq_some_iff.1 hz).1
    have h3 := lo i z hz
    have h4 := hi (n - i) i z (by omega) hz
    omega
  have hall : l.all (inB n) = true := by
    rw [List.all_eq_true] at h1 ⊢
    intro x hx
    exact h1 x (hp.mem_iff.2 hx)
  refine ⟨hall, ?_, (hp.nodup_iff).1 (up_nodup h2)⟩
  have : (seenF l (List.replicate n false)).any (fun x => !x) = false := by
    rw [List.any_eq_false]
    intro b hb
    obtain ⟨j, hj⟩ := List.mem_iff_getElem?.1 hb
    have hlt := (List.getElem?_eq_some_iff.1 hj).1
    rw [seenF_length, List.length_replicate] at hlt
    have hm : (j : Int) ∈ l := by
      obtain ⟨z, hz⟩ : ∃ z, (isort l)[j]? = some z := ⟨(isort l)[j], by simp⟩
      have := hval j z hz
      rw [← this]
      exact hp.mem_iff.1 (List.mem_of_getElem? hz)
    have := seen_get l (List.replicate n false) j (fun c hc => (inB_iff (List.all_eq_true.1 hall c hc)).1) (.inr ⟨by simpa using hlt, hm⟩)
    rw [hj] at this
    cases this
    simp
  simp [rightB, hl, this]
end Go.Proofs.YtlhjljplfmmoaaaGreatDoor.Ev
