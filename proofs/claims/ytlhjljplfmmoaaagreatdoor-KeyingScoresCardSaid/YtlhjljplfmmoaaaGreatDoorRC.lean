/- The reference's item check and answer check are the program's. -/
import Derived.Test.YtlhjljplfmmoaaaGreatDoorRA
import Derived.Test.YtlhjljplfmmoaaaGreatDoorR7
import Derived.Test.YtlhjljplfmmoaaaGreatDoorR8
import Derived.Test.YtlhjljplfmmoaaaGreatDoorFS
import Derived.Test.YtlhjljplfmmoaaaGreatDoorF33
namespace Go.Proofs.YtlhjljplfmmoaaaGreatDoor.Ev
open Go
set_option linter.unusedSimpArgs false
set_option linter.unusedVariables false
set_option maxRecDepth 10000
set_option maxHeartbeats 4000000
noncomputable def validR (it : It) : Int :=
  if !numbersB it then 3
  else if !withinB it.kind 1 6 then 1
  else if !stringsB it then 2
  else if decide (10 < it.opts.length) || (decide (10 < it.texts.length) || decide (8 < it.assets.length)) then 5
  else if !keyR it then 19
  else if !risingB it.assets 1 9999999 then 23
  else 0
theorem valid_r0 (n : Nat) (it : It) (hn : it.Fit n) (hm : it.Fit 9223372036854775806) (h24 : 24 ≤ n) (wf : withinB it.kind 1 6 = true → (ev Tryz.prog tab (n + 5)).callA 63 [it.pv] = some [.val (.bool (keyR it))]) : (ev Tryz.prog tab (n + 6)).callA 29 [it.pv] = some [intP (validR it)] := by
  have hm7 : it.Fit 9223372036854775807 := ⟨by have := hm.stem; omega, by have := hm.cont; omega, by have := hm.opts; omega, fun s hs => by have := hm.optsS s hs; omega, by have := hm.choices; omega, by have := hm.texts; omega, fun s hs => by have := hm.textsS s hs; omega, by have := hm.assets; omega⟩
  have hn3 : it.Fit (n + 3) := ⟨by have := hn.stem; omega, by have := hn.cont; omega, by have := hn.opts; omega, fun s hs => by have := hn.optsS s hs; omega, by have := hn.choices; omega, by have := hn.texts; omega, fun s hs => by have := hn.textsS s hs; omega, by have := hn.assets; omega⟩
  have wn := ranges_r (n + 3) it
  have ww := within_r (n + 4) it.kind 1 6
  have ws := texts_r (n + 3) it hn3 hm7 (by omega)
  have wr := rising_r (n + 3) it.assets 1 9999999 hm7.assets (by have := hn.assets; omega)
  unfold validR
  rw [callA_fn rfl Tryz.func29 rfl rfl rfl]
  generalize numbersB it = vn at *
  generalize withinB it.kind 1 6 = vw at *
  generalize stringsB it = vs at *
  generalize keyR it = vf at *
  generalize risingB it.assets 1 9999999 = vr at *
  obtain ⟨id, ver, kind, stem, opts, choices, val, tol, texts, pts, cont, fam, set, words, secs, assets, rub⟩ := it
  simp only [It.pv, intP] at wn ww ws wf wr
  cases vn
  · simp [-frame, Tryz.f29, It.pv, intP, wn]
  cases vw
  · simp [-frame, Tryz.f29, It.pv, intP, wn, ww]
  have wf := wf rfl
  cases vs
  · simp [-frame, Tryz.f29, It.pv, intP, wn, ww, ws]
  by_cases h1 : 10 < (opts.length : Int)
  · simp [-frame, Tryz.f29, It.pv, intP, wn, ww, ws, h1, show 10 < opts.length by omega]
  by_cases h2 : 10 < (texts.length : Int)
  · simp [-frame, Tryz.f29, It.pv, intP, wn, ww, ws, h1, h2, show 10 < texts.length by omega]
  by_cases h3 : 8 < (assets.length : Int)
  · simp [-frame, Tryz.f29, It.pv, intP, wn, ww, ws, h1, h2, h3, show 8 < assets.length by omega]
  have g1 : ¬ 10 < opts.length := by omega
  have g2 : ¬ 10 < texts.length := by omega
  have g3 : ¬ 8 < assets.length := by omega
  cases vf
  · simp [-frame, Tryz.f29, It.pv, intP, wn, ww, ws, h1, h2, h3, g1, g2, g3, wf]
  cases vr
  · simp [-frame, Tryz.f29, It.pv, intP, wn, ww, ws, h1, h2, h3, g1, g2, g3, wf, wr]
  · simp [-frame, Tryz.f29, It.pv, intP, wn, ww, ws, h1, h2, h3, g1, g2, g3, wf, wr]
end Go.Proofs.YtlhjljplfmmoaaaGreatDoor.Ev
namespace Go.Proofs.YtlhjljplfmmoaaaGreatDoor.Ev
open Go
set_option linter.unusedSimpArgs false
set_option linter.unusedVariables false
set_option maxRecDepth 10000
set_option maxHeartbeats 4000000
theorem cntB_perm {p : Int → Bool} {l r : List Int} (h : l.Perm r) : cntB p l = cntB p r := by
  induction h with
  | nil => rfl
  | cons x _ ih => unfold cntB; rw [ih]
  | swap x y t => unfold cntB; unfold cntB; omega
  | trans _ _ h1 h2 => rw [h1, h2]
def sumC (f : Nat → Nat) : Nat → Nat
  | 0 => 0
  | n + 1 => f n + sumC f n
theorem sum_one {f : Nat → Nat} : ∀ {n : Nat}, (∀ j, j < n → f j = 1) → sumC f n = n
  | 0, _ => rfl
  | n + 1, h => by
    unfold sumC
    rw [h n (by omega), sum_one fun j hj => h j (by omega)]
    omega
theorem sum_le {f : Nat → Nat} : ∀ {n : Nat}, (∀ j, j < n → f j ≤ 1) → sumC f n ≤ n
  | 0, _ => Nat.le_refl _
  | n + 1, h => by
    unfold sumC
    have h1 := h n (by omega)
    have h2 := sum_le (n := n) fun j hj => h j (by omega)
    omega
theorem sum_ge {f : Nat → Nat} : ∀ {n : Nat}, (∀ j, j < n → 1 ≤ f j) → n ≤ sumC f n
  | 0, _ => Nat.le_refl _
  | n + 1, h => by
    unfold sumC
    have h1 := h n (by omega)
    have h2 := sum_ge (n := n) fun j hj => h j (by omega)
    omega
theorem one_of_le {f : Nat → Nat} : ∀ {n : Nat}, (∀ j, j < n → f j ≤ 1) → sumC f n = n → ∀ j, j < n → f j = 1
  | 0, _, _, j, hj => by omega
  | n + 1, h, hs, j, hj => by
    unfold sumC at hs
    have h1 := h n (by omega)
    have h2 := sum_le (n := n) fun j hj => h j (by omega)
    by_cases e : j = n
    · subst e; omega
    · exact one_of_le (n := n) (fun j hj => h j (by omega)) (by omega) j (by omega)
theorem one_of_ge {f : Nat → Nat} : ∀ {n : Nat}, (∀ j, j < n → 1 ≤ f j) → sumC f n = n → ∀ j, j < n → f j = 1
  | 0, _, _, j, hj => by omega
  | n + 1, h, hs, j, hj => by
    unfold sumC at hs
    have h1 := h n (by omega)
    have h2 := sum_ge (n := n) fun j hj => h j (by omega)
    by_cases e : j = n
    · subst e; omega
    · exact one_of_ge (n := n) (fun j hj => h j (by omega)) (by omega) j (by omega)
theorem sum_add (f g : Nat → Nat) : ∀ n, sumC (fun j => f j + g j) n = sumC f n + sumC g n
  | 0 => rfl
  | n + 1 => by
    unfold sumC
    rw [sum_add f g n]; omega
theorem sum_hit (x : Int) : ∀ n : Nat, sumC (fun j => if decide (x = (j : Int)) = true then 1 else 0) n = if inB n x = true then 1 else 0
  | 0 => by
    unfold sumC inB
    simp
    try omega
  | n + 1 => by
    unfold sumC
    rw [sum_hit x n]
    unfold inB
    by_cases h0 : x < 0
    · simp [h0]; omega
    · by_cases h1 : x = n
      · subst h1; simp; try omega
      · by_cases h2 : (n : Int) ≤ x
        · simp [h0, h1, h2]; omega
        · simp [h0, h1, h2]; omega
theorem sum_cnt (n : Nat) : ∀ l : List Int, sumC (fun j => cntZ j l) n = cntB (inB n) l
  | [] => by
    induction n with
    | zero => rfl
    | succ n ih => unfold sumC; rw [ih]; rfl
  | x :: t => by
    have : (fun (j : Nat) => cntZ j (x :: t)) = fun (j : Nat) => (if decide (x = (j : Int)) = true then 1 else 0) + cntZ j t := rfl
    rw [this, sum_add, sum_hit, sum_cnt n t]
    rfl
theorem cnt_full {p : Int → Bool} : ∀ {l : List Int}, l.all p = true → cntB p l = l.length
  | [], _ => rfl
  | x :: t, h => by
    rw [List.all_cons, Bool.and_eq_true] at h
    unfold cntB
    rw [if_pos h.1, cnt_full h.2, List.length_cons]; omega
theorem full_cnt {p : Int → Bool} : ∀ {l : List Int}, cntB p l = l.length → l.all p = true
  | [], _ => rfl
  | x :: t, h => by
    have := cntB_le p t
    unfold cntB at h
    rw [List.length_cons] at h
    rw [List.all_cons]
    by_cases hx : p x = true
    · rw [if_pos hx] at h
      rw [hx, full_cnt (by omega)]; rfl
    · rw [if_neg hx] at h; omega
theorem cnt_mem {x : Int} : ∀ {l : List Int}, x ∈ l ↔ 1 ≤ cntB (fun y => decide (y = x)) l
  | [] => by simp [cntB]
  | y :: t => by
    unfold cntB
    rw [List.mem_cons, cnt_mem (l := t)]
    by_cases h : y = x
    · subst h; simp; try omega
    · have h' : ¬ x = y := fun e => h e.symm
      simp [h, h']
theorem cnt_nodup {l : List Int} : l.Nodup ↔ ∀ x, cntB (fun y => decide (y = x)) l ≤ 1 := by
  induction l with
  | nil => simp [cntB]
  | cons y t ih =>
    rw [List.nodup_cons, ih]
    constructor
    · rintro ⟨h1, h2⟩ x
      unfold cntB
      by_cases h : y = x
      · subst h
        have : ¬ 1 ≤ cntB (fun z => decide (z = y)) t := fun h => h1 (cnt_mem.2 h)
        simp; omega
      · have := h2 x
        simp [h]; omega
    · intro h
      constructor
      · intro hm
        have h1 := cnt_mem.1 hm
        have h2 := h y
        unfold cntB at h2
        simp at h2
        omega
      · intro x
        have := h x
        unfold cntB at this
        split at this <;> omega
theorem perm_iff {l : List Int} {n : Nat} (hl : l.length = n) : (∀ j, j < n → cntZ j l = 1) ↔ (l.all (inB n) = true ∧ l.Nodup) := by
  subst hl
  constructor
  · intro h
    have hs := sum_one h
    rw [sum_cnt] at hs
    have hin := full_cnt hs
    refine ⟨hin, cnt_nodup.2 fun x => ?_⟩
    by_cases hx : inB l.length x = true
    · unfold inB at hx
      simp at hx
      have := h x.toNat (by omega)
      unfold cntZ at this
      rw [show ((x.toNat : Nat) : Int) = x by omega] at this
      omega
    · have : ¬ x ∈ l := fun hm => hx (List.all_eq_true.1 hin x hm)
      have : ¬ 1 ≤ cntB (fun y => decide (y = x)) l := fun h => this (cnt_mem.2 h)
      omega
  · rintro ⟨h1, h2⟩
    refine one_of_le (f := fun j => cntZ j l) (fun j _ => cnt_nodup.1 h2 j) ?_
    rw [sum_cnt, cnt_full h1]
theorem ins_sorted_r (x : Int) : ∀ l : List Int, l.Pairwise (· ≤ ·) → (ins x l).Pairwise (· ≤ ·)
  | [], _ => by simp [ins]
  | y :: t, h => by
    unfold ins
    have h1 := List.pairwise_cons.1 h
    split
    · rename_i hle
      refine List.pairwise_cons.2 ⟨fun z hz => ?_, h⟩
      rcases List.mem_cons.1 hz with rfl | hz
      · omega
      · have := h1.1 z hz; omega
    · rename_i hle
      refine List.pairwise_cons.2 ⟨fun z hz => ?_, ins_sorted_r x t h1.2⟩
      rcases List.mem_cons.1 ((ins_perm' x t).mem_iff.1 hz) with rfl | hz
      · omega
      · exact h1.1 z hz
theorem isort_sorted' : ∀ l : List Int, (isort l).Pairwise (· ≤ ·)
  | [] => List.Pairwise.nil
  | x :: t => ins_sorted_r x _ (isort_sorted' t)
theorem rise_of {r : List Int} {n : Nat} (hs : r.Pairwise (· ≤ ·)) (hin : r.all (inB n) = true) (hd : r.Nodup) : risingB r 0 ((n : Int) - 1) = true := by
  unfold risingB
  rw [List.all_eq_true]
  intro i hi
  have hi := List.mem_range.1 hi
  unfold riseAt
  obtain ⟨z, hz⟩ : ∃ z, r[i]? = some z := ⟨r[i], by simp⟩
  have hzb : withinB z 0 ((n : Int) - 1) = true := by
    have := List.all_eq_true.1 hin z (List.mem_of_getElem? hz)
    unfold inB at this
    simp at this
    simp [withinB]; omega
  rw [hz]
  simp only [hzb, Bool.true_and]
  by_cases h0 : i = 0
  · simp [h0]
  · obtain ⟨y, hy⟩ : ∃ y, r[i - 1]? = some y := ⟨r[i - 1], by simp⟩
    rw [hy]
    have hy' := (List.getElem?_eq_some_iff.1 hy)
    have hz' := (List.getElem?_eq_some_iff.1 hz)
    obtain ⟨hy1, hy2⟩ := hy'
    obtain ⟨hz1, hz2⟩ := hz'
    have h1 := List.pairwise_iff_getElem.1 hs (i - 1) i hy1 hz1 (by omega)
    have h2 := List.pairwise_iff_getElem.1 (List.nodup_iff_pairwise_ne.1 hd) (i - 1) i hy1 hz1 (by omega)
    rw [hy2, hz2] at h1 h2
    simp; omega
theorem permB_eq (l : List Int) (n : Nat) : permB l n = (decide (l.length = n) && risingB (isort l) 0 ((n : Int) - 1)) := by
  by_cases hl : l.length = n
  · have e : decide (l.length = n) = true := decide_eq_true hl
    unfold permB
    rw [e, Bool.true_and, Bool.true_and, Bool.eq_iff_iff]
    rw [List.all_eq_true]
    have hj : (∀ x, x ∈ List.range n → decide (cntZ x l = 1) = true) ↔ ∀ j, j < n → cntZ j l = 1 := by
      constructor
      · intro h j hj; simpa using h j (List.mem_range.2 hj)
      · intro h x hx; simpa using h x (List.mem_range.1 hx)
    rw [hj, perm_iff hl]
    constructor
    · rintro ⟨h1, h2⟩
      refine rise_of (isort_sorted' l) ?_ ((isort_perm' l).nodup_iff.2 h2)
      rw [List.all_eq_true] at h1 ⊢
      exact fun x hx => h1 x ((isort_perm' l).mem_iff.1 hx)
    · intro h
      have := perm_seen h hl
      exact ⟨this.1, this.2.2⟩
  · unfold permB; simp [hl]
theorem keyR_eq (it : It) : keyR it = fitsB it := by
  unfold keyR
  split
  · rename_i h
    rw [permB_eq]
    simp only [fitsB, keyB, chosenB, h]
    by_cases c3 : it.val = 0 <;> by_cases c4 : it.tol = 0 <;> by_cases c5 : it.rub = 0 <;> by_cases c6 : it.texts = [] <;> simp [c3, c4, c5, c6, Bool.and_assoc, List.length_pos_iff]
  · rfl
theorem validR_eq (it : It) : validR it = validI it := by
  unfold validR validI
  rw [keyR_eq]
theorem valid_r (n : Nat) (it : It) (hn : it.Fit n) (hm : it.Fit 9223372036854775806) (h24 : 24 ≤ n) : (ev Tryz.prog tab (n + 6)).callA 29 [it.pv] = some [intP (validI it)] := by
  rw [← validR_eq]
  have hn2 : it.Fit (n + 2) := ⟨by have := hn.stem; omega, by have := hn.cont; omega, by have := hn.opts; omega, fun s hs => by have := hn.optsS s hs; omega, by have := hn.choices; omega, by have := hn.texts; omega, fun s hs => by have := hn.textsS s hs; omega, by have := hn.assets; omega⟩
  refine valid_r0 n it hn hm h24 fun hk => ?_
  have : it.kind = 1 ∨ it.kind = 2 ∨ it.kind = 3 ∨ it.kind = 4 ∨ it.kind = 5 ∨ it.kind = 6 := by simp [withinB] at hk; omega
  rcases this with h | h | h | h | h | h
  · exact keyR1 (n + 2) it hn2 hm h
  · exact keyR2 (n + 2) it hn2 hm h
  · exact keyR3 (n + 2) it hn2 hm h
  · exact keyR4 (n + 2) it hn2 hm h
  · exact keyR5 (n + 2) it hn2 hm h
  · exact keyR6 (n + 2) it hn2 hm h
end Go.Proofs.YtlhjljplfmmoaaaGreatDoor.Ev
namespace Go.Proofs.YtlhjljplfmmoaaaGreatDoor.Ev
open Go
set_option linter.unusedSimpArgs false
set_option linter.unusedVariables false
set_option maxRecDepth 10000
set_option maxHeartbeats 4000000
theorem chosen_r (n : Nat) (k : Int) : (ev Tryz.prog tab (n + 1)).callA 35 [intP k] = some [.val (.bool (chosenB k))] := by
  rw [callA_fn rfl Tryz.func35 rfl rfl rfl]
  by_cases h1 : k = 1
  · simp [-frame, Tryz.f35, intP, chosenB, h1]
  by_cases h2 : k = 2
  · simp [-frame, Tryz.f35, intP, chosenB, h1, h2]
  by_cases h3 : k = 3
  · simp [-frame, Tryz.f35, intP, chosenB, h1, h2, h3]
  · simp [-frame, Tryz.f35, intP, chosenB, h1, h2, h3]
theorem written_r (n : Nat) (k : Int) : (ev Tryz.prog tab (n + 1)).callA 66 [intP k] = some [.val (.bool (writtenC k))] := by
  rw [callA_fn rfl Tryz.func66 rfl rfl rfl]
  by_cases h1 : k = 5
  · simp [-frame, Tryz.f66, intP, writtenC, h1]
  · simp [-frame, Tryz.f66, intP, writtenC, h1]
theorem count_r (n : Nat) (zs : List Int) (k : Int) (hs : zs.length ≤ 9223372036854775806) (hn : zs.length ≤ n) :
    (ev Tryz.prog tab (n + 1)).callA 58 [.sl (zs.map intP), intP k] = some [intP (cntB (fun x => decide (x = k)) zs)] := by
  have hq : ∀ z : Int, intP z = .val (.int .i64 z) := fun _ => rfl
  rw [callA_fn rfl Tryz.func58 rfl rfl rfl]
  simp [-frame, Tryz.f58, hq]
  refine loop_rule (fun d st => ∃ (j r : Nat) (a : List (Nat × TV)), st = { tm := frameOf 21 a, sus := [], so := [] } ∧ look a 1 = .val (.int .i64 k) ∧ look a 8 = .sl (zs.map intP) ∧ look a 9 = .val (.int .i64 zs.length) ∧ look a 10 = .val (.int .i64 j) ∧ look a 5 = .val (.int .i64 r) ∧ d = zs.length - j ∧ j ≤ zs.length ∧ r + cntB (fun x => decide (x = k)) (zs.drop j) = cntB (fun x => decide (x = k)) zs) ?_ _ zs.length _ (by omega) ⟨0, 0, _, rfl, by simp, by simp, by simp, by simp, by simp, rfl, by omega, by simp⟩
  rintro d st m2 ⟨j, r, a, rfl, h1, h8, h9, h10, h5, rfl, hj, hr⟩ ih2
  by_cases hlt2 : j < zs.length
  · obtain ⟨z, hz⟩ : ∃ z, zs[j]? = some z := ⟨zs[j], by simp⟩
    have hw2 := wrap_succ hlt2 (show zs.length ≤ 9223372036854775807 by omega)
    have hd2 : decide ((j : Int) < zs.length) = true := by simp [hlt2]
    rw [drop_cons hz, cntB] at hr
    have hle := cntB_le (fun x => decide (x = k)) zs
    have hwr : IntKind.i64.wrap ((r : Int) + 1) = (r : Int) + 1 := wrap_i64 (by omega) (by omega)
    by_cases hzi : z = k
    · rw [if_pos (by simpa using hzi)] at hr
      simp [-frame, -getElem?_pos, h1, h8, h9, h10, h5, hd2, hz, hlt2, hw2, hwr, hq, hzi]
      exact ih2 _ _ (by omega) ⟨j + 1, r + 1, _, rfl, by simp [h1], by simp [h8], by simp [h9], by simp, by simp, rfl, by omega, by omega⟩
    · rw [if_neg (by simpa using hzi)] at hr
      simp [-frame, -getElem?_pos, h1, h8, h9, h10, h5, hd2, hz, hlt2, hw2, hwr, hq, hzi]
      exact ih2 _ _ (by omega) ⟨j + 1, r, _, rfl, by simp [h1], by simp [h8], by simp [h9], by simp, by simp [h5], rfl, by omega, by omega⟩
  · obtain rfl : j = zs.length := by omega
    rw [List.drop_length] at hr
    have hr' : (r : Int) = cntB (fun x => decide (x = k)) zs := by simp [cntB] at hr; omega
    rw [hr'] at h5
    simp [-frame, h1, h8, h9, h10, h5]
def onceB (l : List Int) (x : Int) : Bool := decide (cntB (fun y => decide (y = x)) l = 1)
def goAt (kind : Int) (l : List Int) (i : Nat) : Bool := match l[i]? with
  | some x => (!decide (kind = 2) || upAt l i) && (!decide (kind = 3) || onceB l x)
  | none => true
def rightR (kind : Int) (n : Nat) (l : List Int) : Bool :=
  !((decide (kind = 1) && !decide (l.length = 1)) || (decide (kind = 3) && !decide (l.length = n))) && (List.range l.length).all (goAt kind l)
def choicesR (kind : Int) (n : Nat) (l : List Int) : Int := if l.all (inB n) = true then (if rightR kind n l = true then 0 else 23) else 3
theorem choices_r (n : Nat) (kind : Int) (no : Nat) (l : List Int) (hl : l.length ≤ 9223372036854775806) (hln : l.length ≤ n) (hk : kind = 1 ∨ kind = 2 ∨ kind = 3) :
    (ev Tryz.prog tab (n + 2)).callA 36 [intP kind, intP no, .sl (l.map intP)] = some [intP (choicesR kind no l)] := by
  obtain ⟨V, hV⟩ : ∃ V, V = choicesR kind no l := ⟨_, rfl⟩
  rw [← hV]
  have hq : ∀ z : Int, intP z = .val (.int .i64 z) := fun _ => rfl
  rw [callA_fn rfl Tryz.func36 rfl rfl rfl]
  simp [-frame, Tryz.f36, hq]
  refine loop_rule (fun d st => ∃ (i : Nat) (a : List (Nat × TV)), st = { tm := frameOf 75 a, sus := [], so := [] } ∧ look a 0 = .val (.int .i64 kind) ∧ look a 1 = .val (.int .i64 no) ∧ look a 2 = .sl (l.map intP) ∧ look a 11 = .sl (l.map intP) ∧ look a 12 = .val (.int .i64 l.length) ∧ look a 13 = .val (.int .i64 i) ∧ d = l.length - i ∧ i ≤ l.length ∧ (l.take i).all (inB no) = true) ?_ _ l.length _ (by omega) ⟨0, _, rfl, by simp, by simp, by simp [hq], by simp [hq], by simp, by simp, rfl, by omega, by simp⟩
  rintro d st m ⟨i, a, rfl, h0, h1, h2, h11, h12, h13, rfl, hi, hall⟩ ih
  by_cases hlt : i < l.length
  · obtain ⟨z, hc⟩ : ∃ z, l[i]? = some z := ⟨l[i], by simp⟩
    have hw := wrap_succ hlt (by omega)
    have hd : decide ((i : Int) < l.length) = true := by simp [hlt]
    have hno : inB no z = false → V = 3 := fun h => by rw [hV]; unfold choicesR; rw [all_not hc h]; rfl
    by_cases g1 : z < 0
    · have hV := hno (by simp [inB, g1])
      simp [-frame, -getElem?_pos, h0, h1, h2, h11, h12, h13, hd, hc, hlt, hw, hq, g1, hV]
    · by_cases g2 : (no : Int) ≤ z
      · have hV := hno (by simp [inB, g2])
        simp [-frame, -getElem?_pos, h0, h1, h2, h11, h12, h13, hd, hc, hlt, hw, hq, g1, g2, hV]
      · simp [-frame, -getElem?_pos, h0, h1, h2, h11, h12, h13, hd, hc, hlt, hw, hq, g1, g2]
        exact ih _ _ (by omega) ⟨i + 1, _, rfl, by simp [h0], by simp [h1], by simp [h2], by simp [h11], by simp [h12], by simp, rfl, by omega, all_take hall hc (by simp [inB, g1]; omega)⟩
  · obtain rfl : i = l.length := by omega
    clear ih
    rw [List.take_length] at hall
    have hch : V = if rightR kind no l = true then 0 else 23 := by rw [hV]; unfold choicesR; rw [if_pos hall]
    clear hV
    have hloop : ∀ (hpre : ((decide (kind = 1) && !decide (l.length = 1)) || (decide (kind = 3) && !decide (l.length = no))) = false), rightR kind no l = (List.range l.length).all (goAt kind l) := fun h => by unfold rightR; rw [h]; rfl
    have hno : ∀ j, j < l.length → goAt kind l j = false → V = 23 := fun j hj h => by
      rw [hch]; unfold rightR; rw [range_not hj h, Bool.and_false]; rfl
    have wc := fun z => count_r n l z hl hln
    simp only [hq] at wc
    rcases hk with rfl | rfl | rfl
    · by_cases e1 : l.length = 1
      · have e2 : ((l.length : Int) = 1) = True := eq_true (by omega)
        have hR := hloop (by simp [e1])
        rw [hR] at hch
        have e1' := eq_true e1
        simp [-frame, h0, h1, h2, h11, h12, h13, e1', e2, hq]
        refine loop_rule (fun d st => ∃ (i : Nat) (a : List (Nat × TV)), st = { tm := frameOf 75 a, sus := [], so := [] } ∧ look a 0 = .val (.int .i64 1) ∧ look a 2 = .sl (l.map intP) ∧ look a 42 = .sl (l.map intP) ∧ look a 43 = .val (.int .i64 l.length) ∧ look a 44 = .val (.int .i64 i) ∧ d = l.length - i ∧ i ≤ l.length ∧ (List.range i).all (goAt 1 l) = true) ?_ _ l.length _ (by omega) ⟨0, _, rfl, by simp [h0], by simp [h2], by simp, by simp, by simp, rfl, by omega, by simp⟩
        clear h0 h1 h2 h11 h12 h13 e1' e2
        rintro d st m ⟨i, a, rfl, h0, h2, h42, h43, h44, rfl, hi, hgo⟩ ih
        by_cases hlt : i < l.length
        · obtain ⟨z, hc⟩ : ∃ z, l[i]? = some z := ⟨l[i], by simp⟩
          have hw := wrap_succ hlt (by omega)
          have hd : decide ((i : Int) < l.length) = true := by simp [hlt]
          have hok : goAt 1 l i = true := by unfold goAt; rw [hc]; simp
          simp [-frame, -getElem?_pos, h0, h2, h42, h43, h44, hd, hc, hlt, hw, hq]
          exact ih _ _ (by omega) ⟨i + 1, _, rfl, by simp [h0], by simp [h2], by simp [h42], by simp [h43], by simp, rfl, by omega, range_all hgo hok⟩
        · obtain rfl : i = l.length := by omega
          rw [hgo] at hch
          simp [-frame, h0, h2, h42, h43, h44, hch]
      · have hV : V = 23 := by rw [hch]; unfold rightR; simp [e1]
        have e2 : ((l.length : Int) = 1) = False := eq_false (by omega)
        have e1' := eq_false e1
        simp [-frame, h0, h1, h2, h11, h12, h13, e1', e2, hq, hV]
    · have hR := hloop (by simp)
      rw [hR] at hch
      simp [-frame, h0, h1, h2, h11, h12, h13, hq]
      refine loop_rule (fun d st => ∃ (i : Nat) (a : List (Nat × TV)), st = { tm := frameOf 75 a, sus := [], so := [] } ∧ look a 0 = .val (.int .i64 2) ∧ look a 2 = .sl (l.map intP) ∧ look a 42 = .sl (l.map intP) ∧ look a 43 = .val (.int .i64 l.length) ∧ look a 44 = .val (.int .i64 i) ∧ d = l.length - i ∧ i ≤ l.length ∧ (List.range i).all (goAt 2 l) = true) ?_ _ l.length _ (by omega) ⟨0, _, rfl, by simp [h0], by simp [h2], by simp, by simp, by simp, rfl, by omega, by simp⟩
      clear h0 h1 h2 h11 h12 h13
      rintro d st m ⟨i, a, rfl, h0, h2, h42, h43, h44, rfl, hi, hgo⟩ ih
      by_cases hlt : i < l.length
      · obtain ⟨x, hc⟩ : ∃ z, l[i]? = some z := ⟨l[i], by simp⟩
        have hw := wrap_succ hlt (by omega)
        have hd : decide ((i : Int) < l.length) = true := by simp [hlt]
        have hok : goAt 2 l i = upAt l i := by unfold goAt; rw [hc]; simp
        by_cases h0i : 0 < i
        · obtain ⟨y, hy⟩ : ∃ y, l[i - 1]? = some y := ⟨l[i - 1], by simp⟩
          have hwm : IntKind.i64.wrap ((i : Int) - 1) = ((i - 1 : Nat) : Int) := by rw [wrap_i64 (by omega) (by omega)]; omega
          have hlm : i - 1 < l.length := by omega
          have hup : upAt l i = decide (y < x) := by
            unfold upAt
            rw [hc, hy]
            simp; omega
          by_cases hxy : x ≤ y
          · have hV := hno i hlt (by rw [hok, hup]; simp; omega)
            simp [-frame, -getElem?_pos, h0, h2, h42, h43, h44, hd, hc, hlt, hw, hq, h0i, hwm, hlm, hy, hxy, hV]
          · simp [-frame, -getElem?_pos, h0, h2, h42, h43, h44, hd, hc, hlt, hw, hq, h0i, hwm, hlm, hy, hxy]
            exact ih _ _ (by omega) ⟨i + 1, _, rfl, by simp [h0], by simp [h2], by simp [h42], by simp [h43], by simp, rfl, by omega, range_all hgo (by rw [hok, hup]; simp; omega)⟩
        · obtain rfl : i = 0 := by omega
          simp [-frame, -getElem?_pos, h0, h2, h42, h43, h44, hd, hc, hlt, hw, hq]
          exact ih _ _ (by omega) ⟨0 + 1, _, rfl, by simp [h0], by simp [h2], by simp [h42], by simp [h43], by simp [show IntKind.i64.wrap 1 = 1 from rfl], rfl, by omega, range_all hgo (by rw [hok]; unfold upAt; simp)⟩
      · obtain rfl : i = l.length := by omega
        rw [hgo] at hch
        simp [-frame, h0, h2, h42, h43, h44, hch]
    · by_cases e1 : l.length = no
      · have e2 : ((l.length : Int) = no) = True := eq_true (by omega)
        have hR := hloop (by simp [e1])
        rw [hR] at hch
        have e1' := eq_true e1
        simp [-frame, h0, h1, h2, h11, h12, h13, e1', e2, hq]
        refine loop_rule (fun d st => ∃ (i : Nat) (a : List (Nat × TV)), st = { tm := frameOf 75 a, sus := [], so := [] } ∧ look a 0 = .val (.int .i64 3) ∧ look a 2 = .sl (l.map intP) ∧ look a 42 = .sl (l.map intP) ∧ look a 43 = .val (.int .i64 l.length) ∧ look a 44 = .val (.int .i64 i) ∧ d = l.length - i ∧ i ≤ l.length ∧ (List.range i).all (goAt 3 l) = true) ?_ _ l.length _ (by omega) ⟨0, _, rfl, by simp [h0], by simp [h2], by simp, by simp, by simp, rfl, by omega, by simp⟩
        clear h0 h1 h2 h11 h12 h13 e1' e2
        rintro d st m ⟨i, a, rfl, h0, h2, h42, h43, h44, rfl, hi, hgo⟩ ih
        by_cases hlt : i < l.length
        · obtain ⟨z, hc⟩ : ∃ z, l[i]? = some z := ⟨l[i], by simp⟩
          have hw := wrap_succ hlt (by omega)
          have hd : decide ((i : Int) < l.length) = true := by simp [hlt]
          have hok : goAt 3 l i = onceB l z := by unfold goAt; rw [hc]; simp
          have wz := wc z
          by_cases ho : cntB (fun y => decide (y = z)) l = 1
          · rw [ho] at wz
            simp [-frame, -getElem?_pos, h0, h2, h42, h43, h44, hd, hc, hlt, hw, hq, wz]
            exact ih _ _ (by omega) ⟨i + 1, _, rfl, by simp [h0], by simp [h2], by simp [h42], by simp [h43], by simp, rfl, by omega, range_all hgo (by rw [hok]; unfold onceB; simp [ho])⟩
          · have hV := hno i hlt (by rw [hok]; unfold onceB; simp [ho])
            have ho2 : ¬ ((cntB (fun y => decide (y = z)) l : Nat) : Int) = 1 := by omega
            generalize cntB (fun y => decide (y = z)) l = q at *
            simp [-frame, -getElem?_pos, h0, h2, h42, h43, h44, hd, hc, hlt, hw, hq, wz, ho, ho2, hV]
        · obtain rfl : i = l.length := by omega
          rw [hgo] at hch
          simp [-frame, h0, h2, h42, h43, h44, hch]
      · have hV : V = 23 := by rw [hch]; unfold rightR; simp [e1]
        have e2 : ((l.length : Int) = no) = False := eq_false (by omega)
        have e1' := eq_false e1
        simp [-frame, h0, h1, h2, h11, h12, h13, e1', e2, hq, hV]
end Go.Proofs.YtlhjljplfmmoaaaGreatDoor.Ev
namespace Go.Proofs.YtlhjljplfmmoaaaGreatDoor.Ev
open Go
set_option linter.unusedSimpArgs false
set_option linter.unusedVariables false
set_option maxRecDepth 10000
set_option maxHeartbeats 4000000
theorem seen_inv : ∀ (l : List Int) (s : List Bool) (j : Nat), (∀ c, c ∈ l → 0 ≤ c) → (seenF l s)[j]? = some true → s[j]? = some true ∨ (j : Int) ∈ l
  | [], s, j, _, h => .inl h
  | c :: t, s, j, hc, h => by
    have h2 : (seenF t (s.set c.toNat true))[j]? = some true := h
    have hc0 := hc c List.mem_cons_self
    rcases seen_inv t _ j (fun d hd => hc d (List.mem_cons_of_mem _ hd)) h2 with h3 | h3
    · rw [List.getElem?_set] at h3
      split at h3
      · rename_i e
        right
        have : (j : Int) = c := by omega
        rw [this]
        exact List.mem_cons_self
      · exact .inl h3
    · exact .inr (List.mem_cons_of_mem _ h3)
theorem go_all {kind : Int} {p : Int → Bool} {l : List Int} (h : ∀ (i : Nat) (x : Int), l[i]? = some x → goAt kind l i = p x) : (List.range l.length).all (goAt kind l) = l.all p := by
  rw [Bool.eq_iff_iff, List.all_eq_true, List.all_eq_true]
  constructor
  · intro hg x hx
    obtain ⟨i, hi⟩ := List.mem_iff_getElem?.1 hx
    rw [← h i x hi]
    exact hg i (List.mem_range.2 (List.getElem?_eq_some_iff.1 hi).1)
  · intro hp i hi
    have hi := List.mem_range.1 hi
    rw [h i l[i] (List.getElem?_eq_getElem hi)]
    exact hp _ (List.getElem_mem hi)
theorem once_all {l : List Int} : l.all (onceB l) = true ↔ l.Nodup := by
  rw [List.all_eq_true, cnt_nodup]
  constructor
  · intro h x
    by_cases hx : x ∈ l
    · have := h x hx
      unfold onceB at this
      simp at this
      omega
    · have : ¬ 1 ≤ cntB (fun y => decide (y = x)) l := fun h => hx (cnt_mem.2 h)
      omega
  · intro h x hx
    have h1 := cnt_mem.1 hx
    have h2 := h x
    unfold onceB
    exact decide_eq_true (by omega)
theorem right_same {kind : Int} {n : Nat} {l : List Int} (hk : kind = 1 ∨ kind = 2 ∨ kind = 3) (hin : l.all (inB n) = true) : rightR kind n l = rightB kind n l := by
  rcases hk with rfl | rfl | rfl
  · unfold rightR rightB
    rw [go_all (p := fun _ => true) (fun i x hx => by unfold goAt; rw [hx]; simp)]
    by_cases h : l.length = 1 <;> simp [h]
  · have : (List.range l.length).all (goAt 2 l) = upB l := by
      unfold upB
      rw [Bool.eq_iff_iff, List.all_eq_true, List.all_eq_true]
      have e : ∀ i, i ∈ List.range l.length → goAt 2 l i = upAt l i := fun i hi => by
        unfold goAt
        rw [List.getElem?_eq_getElem (List.mem_range.1 hi)]
        simp
      constructor
      · intro h i hi; rw [← e i hi]; exact h i hi
      · intro h i hi; rw [e i hi]; exact h i hi
    unfold rightR rightB
    rw [this]
    simp
  · by_cases hl : l.length = n
    · have h1 : rightR 3 n l = l.all (onceB l) := by
        unfold rightR
        rw [go_all (p := onceB l) (fun i x hx => by unfold goAt; rw [hx]; simp)]
        simp [hl]
      rw [h1]
      have h2 : rightB 3 n l = !(seenF l (List.replicate n false)).any (fun x => !x) := by unfold rightB; simp [hl]
      rw [h2, Bool.eq_iff_iff, once_all]
      have hc0 : ∀ c, c ∈ l → 0 ≤ c := fun c hc => (inB_iff (List.all_eq_true.1 hin c hc)).1
      constructor
      · intro hn
        have hp := (perm_iff hl).2 ⟨hin, hn⟩
        rw [Bool.not_eq_true', List.any_eq_false]
        intro b hb
        obtain ⟨j, hj⟩ := List.mem_iff_getElem?.1 hb
        have hlt := (List.getElem?_eq_some_iff.1 hj).1
        rw [seenF_length, List.length_replicate] at hlt
        have hm : (j : Int) ∈ l := cnt_mem.2 (by have := hp j hlt; unfold cntZ at this; omega)
        have := seen_get l (List.replicate n false) j hc0 (.inr ⟨by simpa using hlt, hm⟩)
        rw [hj] at this
        cases this
        simp
      · intro hs
        rw [Bool.not_eq_true', List.any_eq_false] at hs
        refine ((perm_iff hl).1 ?_).2
        refine one_of_ge (f := fun j => cntZ j l) (fun j hj => ?_) (by rw [sum_cnt, cnt_full hin, hl])
        have hlt : j < (seenF l (List.replicate n false)).length := by rw [seenF_length, List.length_replicate]; exact hj
        obtain ⟨b, hb⟩ : ∃ b, (seenF l (List.replicate n false))[j]? = some b := ⟨_, List.getElem?_eq_getElem hlt⟩
        have := hs b (List.mem_of_getElem? hb)
        have hbt : b = true := by simpa using this
        subst hbt
        rcases seen_inv l _ j hc0 hb with h | h
        · rw [List.getElem?_replicate] at h
          simp at h
        · exact cnt_mem.1 h
    · unfold rightR rightB
      simp [hl]
theorem choices_same {kind : Int} (n : Nat) (l : List Int) (hk : kind = 1 ∨ kind = 2 ∨ kind = 3) : choicesR kind n l = choicesI kind n l := by
  unfold choicesR choicesI
  by_cases h : l.all (inB n) = true
  · rw [if_pos h, if_pos h, right_same hk h]
  · rw [if_neg h, if_neg h]
theorem plain_r (n : Nat) (kind : Int) (a : Ans) (hk : 1 ≤ kind ∧ kind ≤ 6) : (ev Tryz.prog tab (n + 2)).callA 34 [intP kind, a.pv] = some [.val (.bool (!badB kind a))] := by
  have wc := chosen_r n kind
  have ww := written_r n kind
  obtain ⟨aid, ach, av, at', om⟩ := a
  have h6 : kind = 1 ∨ kind = 2 ∨ kind = 3 ∨ kind = 4 ∨ kind = 5 ∨ kind = 6 := by omega
  rcases h6 with rfl | rfl | rfl | rfl | rfl | rfl
  all_goals
    simp only [chosenB, writtenC] at wc ww
    simp only [intP] at wc ww
    rw [callA_fn rfl Tryz.func34 rfl rfl rfl]
    cases om
    · simp [-frame, Tryz.f34, Ans.pv, intP, strP, wc, ww]
      repeat' ((first | refine test_cases ?_ ?_ | refine cond_cases ?_ ?_) <;> intro h <;> (try simp only [Bool.not_eq_true', Bool.not_eq_false', decide_eq_true_eq, decide_eq_false_iff_not] at h) <;> simp [-frame, h, wc, ww])
      all_goals (try simp_all [badB, emptyS, chosenB, writtenC, List.length_pos_iff])
    · simp [-frame, Tryz.f34, Ans.pv, intP, strP, wc, ww]
      repeat' ((first | refine test_cases ?_ ?_ | refine cond_cases ?_ ?_) <;> intro h <;> (try simp only [Bool.not_eq_true', Bool.not_eq_false', decide_eq_true_eq, decide_eq_false_iff_not] at h) <;> simp [-frame, h, wc, ww])
      all_goals (try simp_all [badB, emptyS, chosenB, writtenC, List.length_pos_iff])
end Go.Proofs.YtlhjljplfmmoaaaGreatDoor.Ev
namespace Go.Proofs.YtlhjljplfmmoaaaGreatDoor.Ev
open Go
set_option linter.unusedSimpArgs false
set_option linter.unusedVariables false
set_option maxRecDepth 10000
set_option maxHeartbeats 4000000
theorem It.Fit.mono {it : It} {m n : Nat} (h : it.Fit m) (hmn : m ≤ n) : it.Fit n := ⟨by have := h.stem; omega, by have := h.cont; omega, by have := h.opts; omega, fun s hs => by have := h.optsS s hs; omega, by have := h.choices; omega, by have := h.texts; omega, fun s hs => by have := h.textsS s hs; omega, by have := h.assets; omega⟩
theorem kr1 (n : Nat) (it : It) (a : Ans) (hk : it.kind = 1) (hn : it.Fit n) (hm : it.Fit 9223372036854775806) (ha : a.choices.length ≤ 9223372036854775806) (han : a.choices.length ≤ n) (h24 : 24 ≤ n) : (ev Tryz.prog tab (n + 7)).callA 13 [it.pv, a.pv] = some [intP (kvalidI it a)] := by
  have w := valid_r n it hn hm h24
  have wc := chosen_r (n + 5) 1
  rw [show chosenB 1 = true from rfl] at wc
  have wp := plain_r (n + 4) it.kind a (by omega)
  have wch := choices_r (n + 4) it.kind it.opts.length a.choices ha (by omega) (by omega)
  rw [choices_same _ _ (by omega)] at wch
  rw [hk] at wch
  rw [hk] at wp
  unfold kvalidI
  rw [hk]
  obtain ⟨id, ver, kind, stem, opts, choices, val, tol, texts, pts, cont, fam, set, words, secs, assets, rub⟩ := it
  obtain ⟨aid, ach, av, at', om⟩ := a
  simp only at hk ha wch
  subst hk
  rw [callA_fn rfl Tryz.func13 rfl rfl rfl]
  by_cases hv : validI ⟨id, ver, 1, stem, opts, choices, val, tol, texts, pts, cont, fam, set, words, secs, assets, rub⟩ = 0
  · rw [hv] at w
    simp only [It.pv, Ans.pv, intP, strP] at w wc wp
    have hq : ∀ z : Int, intP z = .val (.int .i64 z) := fun _ => rfl
    simp only [hq] at wch
    by_cases hid : aid = id
    · subst hid
      generalize badB 1 ⟨aid, ach, av, at', om⟩ = bb at *
      cases bb
      · cases om
        · simp [-frame, Tryz.f13, It.pv, Ans.pv, intP, strP, w, wc, wp, hv, wch]
          repeat' ((first | refine test_cases ?_ ?_ | refine cond_cases ?_ ?_) <;> intro h <;> (try simp only [Bool.not_eq_true', Bool.not_eq_false', decide_eq_true_eq, decide_eq_false_iff_not] at h) <;> simp [-frame, Tryz.f13, It.pv, Ans.pv, intP, strP, w, wc, wp, hv, wch, h])
          all_goals simp_all [inner]
          all_goals (try omega)
        · simp [-frame, Tryz.f13, It.pv, Ans.pv, intP, strP, w, wc, wp, hv, wch]
      · simp [-frame, Tryz.f13, It.pv, Ans.pv, intP, strP, w, wc, wp, hv, wch]
    · simp [-frame, Tryz.f13, It.pv, Ans.pv, intP, strP, w, wc, wp, hv, wch, hid]
  · simp only [It.pv, intP, strP] at w
    simp [-frame, Tryz.f13, It.pv, Ans.pv, intP, strP, w, hv]
theorem kr2 (n : Nat) (it : It) (a : Ans) (hk : it.kind = 2) (hn : it.Fit n) (hm : it.Fit 9223372036854775806) (ha : a.choices.length ≤ 9223372036854775806) (han : a.choices.length ≤ n) (h24 : 24 ≤ n) : (ev Tryz.prog tab (n + 7)).callA 13 [it.pv, a.pv] = some [intP (kvalidI it a)] := by
  have w := valid_r n it hn hm h24
  have wc := chosen_r (n + 5) 2
  rw [show chosenB 2 = true from rfl] at wc
  have wp := plain_r (n + 4) it.kind a (by omega)
  have wch := choices_r (n + 4) it.kind it.opts.length a.choices ha (by omega) (by omega)
  rw [choices_same _ _ (by omega)] at wch
  rw [hk] at wch
  rw [hk] at wp
  unfold kvalidI
  rw [hk]
  obtain ⟨id, ver, kind, stem, opts, choices, val, tol, texts, pts, cont, fam, set, words, secs, assets, rub⟩ := it
  obtain ⟨aid, ach, av, at', om⟩ := a
  simp only at hk ha wch
  subst hk
  rw [callA_fn rfl Tryz.func13 rfl rfl rfl]
  by_cases hv : validI ⟨id, ver, 2, stem, opts, choices, val, tol, texts, pts, cont, fam, set, words, secs, assets, rub⟩ = 0
  · rw [hv] at w
    simp only [It.pv, Ans.pv, intP, strP] at w wc wp
    have hq : ∀ z : Int, intP z = .val (.int .i64 z) := fun _ => rfl
    simp only [hq] at wch
    by_cases hid : aid = id
    · subst hid
      generalize badB 2 ⟨aid, ach, av, at', om⟩ = bb at *
      cases bb
      · cases om
        · simp [-frame, Tryz.f13, It.pv, Ans.pv, intP, strP, w, wc, wp, hv, wch]
          repeat' ((first | refine test_cases ?_ ?_ | refine cond_cases ?_ ?_) <;> intro h <;> (try simp only [Bool.not_eq_true', Bool.not_eq_false', decide_eq_true_eq, decide_eq_false_iff_not] at h) <;> simp [-frame, Tryz.f13, It.pv, Ans.pv, intP, strP, w, wc, wp, hv, wch, h])
          all_goals simp_all [inner]
          all_goals (try omega)
        · simp [-frame, Tryz.f13, It.pv, Ans.pv, intP, strP, w, wc, wp, hv, wch]
      · simp [-frame, Tryz.f13, It.pv, Ans.pv, intP, strP, w, wc, wp, hv, wch]
    · simp [-frame, Tryz.f13, It.pv, Ans.pv, intP, strP, w, wc, wp, hv, wch, hid]
  · simp only [It.pv, intP, strP] at w
    simp [-frame, Tryz.f13, It.pv, Ans.pv, intP, strP, w, hv]
theorem kr3 (n : Nat) (it : It) (a : Ans) (hk : it.kind = 3) (hn : it.Fit n) (hm : it.Fit 9223372036854775806) (ha : a.choices.length ≤ 9223372036854775806) (han : a.choices.length ≤ n) (h24 : 24 ≤ n) : (ev Tryz.prog tab (n + 7)).callA 13 [it.pv, a.pv] = some [intP (kvalidI it a)] := by
  have w := valid_r n it hn hm h24
  have wc := chosen_r (n + 5) 3
  rw [show chosenB 3 = true from rfl] at wc
  have wp := plain_r (n + 4) it.kind a (by omega)
  have wch := choices_r (n + 4) it.kind it.opts.length a.choices ha (by omega) (by omega)
  rw [choices_same _ _ (by omega)] at wch
  rw [hk] at wch
  rw [hk] at wp
  unfold kvalidI
  rw [hk]
  obtain ⟨id, ver, kind, stem, opts, choices, val, tol, texts, pts, cont, fam, set, words, secs, assets, rub⟩ := it
  obtain ⟨aid, ach, av, at', om⟩ := a
  simp only at hk ha wch
  subst hk
  rw [callA_fn rfl Tryz.func13 rfl rfl rfl]
  by_cases hv : validI ⟨id, ver, 3, stem, opts, choices, val, tol, texts, pts, cont, fam, set, words, secs, assets, rub⟩ = 0
  · rw [hv] at w
    simp only [It.pv, Ans.pv, intP, strP] at w wc wp
    have hq : ∀ z : Int, intP z = .val (.int .i64 z) := fun _ => rfl
    simp only [hq] at wch
    by_cases hid : aid = id
    · subst hid
      generalize badB 3 ⟨aid, ach, av, at', om⟩ = bb at *
      cases bb
      · cases om
        · simp [-frame, Tryz.f13, It.pv, Ans.pv, intP, strP, w, wc, wp, hv, wch]
          repeat' ((first | refine test_cases ?_ ?_ | refine cond_cases ?_ ?_) <;> intro h <;> (try simp only [Bool.not_eq_true', Bool.not_eq_false', decide_eq_true_eq, decide_eq_false_iff_not] at h) <;> simp [-frame, Tryz.f13, It.pv, Ans.pv, intP, strP, w, wc, wp, hv, wch, h])
          all_goals simp_all [inner]
          all_goals (try omega)
        · simp [-frame, Tryz.f13, It.pv, Ans.pv, intP, strP, w, wc, wp, hv, wch]
      · simp [-frame, Tryz.f13, It.pv, Ans.pv, intP, strP, w, wc, wp, hv, wch]
    · simp [-frame, Tryz.f13, It.pv, Ans.pv, intP, strP, w, wc, wp, hv, wch, hid]
  · simp only [It.pv, intP, strP] at w
    simp [-frame, Tryz.f13, It.pv, Ans.pv, intP, strP, w, hv]
theorem kr4 (n : Nat) (it : It) (a : Ans) (hk : it.kind = 4) (hn : it.Fit n) (hm : it.Fit 9223372036854775806) (ha : a.choices.length ≤ 9223372036854775806) (han : a.choices.length ≤ n) (h24 : 24 ≤ n) : (ev Tryz.prog tab (n + 7)).callA 13 [it.pv, a.pv] = some [intP (kvalidI it a)] := by
  have w := valid_r n it hn hm h24
  have wc := chosen_r (n + 5) 4
  rw [show chosenB 4 = false from rfl] at wc
  have wp := plain_r (n + 4) it.kind a (by omega)
  rw [hk] at wp
  unfold kvalidI
  rw [hk]
  obtain ⟨id, ver, kind, stem, opts, choices, val, tol, texts, pts, cont, fam, set, words, secs, assets, rub⟩ := it
  obtain ⟨aid, ach, av, at', om⟩ := a
  simp only at hk ha
  subst hk
  rw [callA_fn rfl Tryz.func13 rfl rfl rfl]
  by_cases hv : validI ⟨id, ver, 4, stem, opts, choices, val, tol, texts, pts, cont, fam, set, words, secs, assets, rub⟩ = 0
  · rw [hv] at w
    simp only [It.pv, Ans.pv, intP, strP] at w wc wp
    have hq : ∀ z : Int, intP z = .val (.int .i64 z) := fun _ => rfl
    by_cases hid : aid = id
    · subst hid
      generalize badB 4 ⟨aid, ach, av, at', om⟩ = bb at *
      cases bb
      · cases om
        · simp [-frame, Tryz.f13, It.pv, Ans.pv, intP, strP, w, wc, wp, hv]
          repeat' ((first | refine test_cases ?_ ?_ | refine cond_cases ?_ ?_) <;> intro h <;> (try simp only [Bool.not_eq_true', Bool.not_eq_false', decide_eq_true_eq, decide_eq_false_iff_not] at h) <;> simp [-frame, Tryz.f13, It.pv, Ans.pv, intP, strP, w, wc, wp, hv, h])
          all_goals simp_all [inner]
          all_goals (try omega)
        · simp [-frame, Tryz.f13, It.pv, Ans.pv, intP, strP, w, wc, wp, hv]
      · simp [-frame, Tryz.f13, It.pv, Ans.pv, intP, strP, w, wc, wp, hv]
    · simp [-frame, Tryz.f13, It.pv, Ans.pv, intP, strP, w, wc, wp, hv, hid]
  · simp only [It.pv, intP, strP] at w
    simp [-frame, Tryz.f13, It.pv, Ans.pv, intP, strP, w, hv]
theorem kr5 (n : Nat) (it : It) (a : Ans) (hk : it.kind = 5) (hn : it.Fit n) (hm : it.Fit 9223372036854775806) (ha : a.choices.length ≤ 9223372036854775806) (han : a.choices.length ≤ n) (h24 : 24 ≤ n) : (ev Tryz.prog tab (n + 7)).callA 13 [it.pv, a.pv] = some [intP (kvalidI it a)] := by
  have w := valid_r n it hn hm h24
  have wc := chosen_r (n + 5) 5
  rw [show chosenB 5 = false from rfl] at wc
  have wp := plain_r (n + 4) it.kind a (by omega)
  rw [hk] at wp
  unfold kvalidI
  rw [hk]
  obtain ⟨id, ver, kind, stem, opts, choices, val, tol, texts, pts, cont, fam, set, words, secs, assets, rub⟩ := it
  obtain ⟨aid, ach, av, at', om⟩ := a
  simp only at hk ha
  subst hk
  rw [callA_fn rfl Tryz.func13 rfl rfl rfl]
  by_cases hv : validI ⟨id, ver, 5, stem, opts, choices, val, tol, texts, pts, cont, fam, set, words, secs, assets, rub⟩ = 0
  · rw [hv] at w
    simp only [It.pv, Ans.pv, intP, strP] at w wc wp
    have hq : ∀ z : Int, intP z = .val (.int .i64 z) := fun _ => rfl
    by_cases hid : aid = id
    · subst hid
      generalize badB 5 ⟨aid, ach, av, at', om⟩ = bb at *
      cases bb
      · cases om
        · simp [-frame, Tryz.f13, It.pv, Ans.pv, intP, strP, w, wc, wp, hv]
          repeat' ((first | refine test_cases ?_ ?_ | refine cond_cases ?_ ?_) <;> intro h <;> (try simp only [Bool.not_eq_true', Bool.not_eq_false', decide_eq_true_eq, decide_eq_false_iff_not] at h) <;> simp [-frame, Tryz.f13, It.pv, Ans.pv, intP, strP, w, wc, wp, hv, h])
          all_goals simp_all [inner]
          all_goals (try omega)
        · simp [-frame, Tryz.f13, It.pv, Ans.pv, intP, strP, w, wc, wp, hv]
      · simp [-frame, Tryz.f13, It.pv, Ans.pv, intP, strP, w, wc, wp, hv]
    · simp [-frame, Tryz.f13, It.pv, Ans.pv, intP, strP, w, wc, wp, hv, hid]
  · simp only [It.pv, intP, strP] at w
    simp [-frame, Tryz.f13, It.pv, Ans.pv, intP, strP, w, hv]
theorem kr6 (n : Nat) (it : It) (a : Ans) (hk : it.kind = 6) (hn : it.Fit n) (hm : it.Fit 9223372036854775806) (ha : a.choices.length ≤ 9223372036854775806) (han : a.choices.length ≤ n) (h24 : 24 ≤ n) : (ev Tryz.prog tab (n + 7)).callA 13 [it.pv, a.pv] = some [intP (kvalidI it a)] := by
  have w := valid_r n it hn hm h24
  have wc := chosen_r (n + 5) 6
  rw [show chosenB 6 = false from rfl] at wc
  have wp := plain_r (n + 4) it.kind a (by omega)
  rw [hk] at wp
  unfold kvalidI
  rw [hk]
  obtain ⟨id, ver, kind, stem, opts, choices, val, tol, texts, pts, cont, fam, set, words, secs, assets, rub⟩ := it
  obtain ⟨aid, ach, av, at', om⟩ := a
  simp only at hk ha
  subst hk
  rw [callA_fn rfl Tryz.func13 rfl rfl rfl]
  by_cases hv : validI ⟨id, ver, 6, stem, opts, choices, val, tol, texts, pts, cont, fam, set, words, secs, assets, rub⟩ = 0
  · rw [hv] at w
    simp only [It.pv, Ans.pv, intP, strP] at w wc wp
    have hq : ∀ z : Int, intP z = .val (.int .i64 z) := fun _ => rfl
    by_cases hid : aid = id
    · subst hid
      generalize badB 6 ⟨aid, ach, av, at', om⟩ = bb at *
      cases bb
      · cases om
        · simp [-frame, Tryz.f13, It.pv, Ans.pv, intP, strP, w, wc, wp, hv]
          repeat' ((first | refine test_cases ?_ ?_ | refine cond_cases ?_ ?_) <;> intro h <;> (try simp only [Bool.not_eq_true', Bool.not_eq_false', decide_eq_true_eq, decide_eq_false_iff_not] at h) <;> simp [-frame, Tryz.f13, It.pv, Ans.pv, intP, strP, w, wc, wp, hv, h])
          all_goals simp_all [inner]
          all_goals (try omega)
        · simp [-frame, Tryz.f13, It.pv, Ans.pv, intP, strP, w, wc, wp, hv]
      · simp [-frame, Tryz.f13, It.pv, Ans.pv, intP, strP, w, wc, wp, hv]
    · simp [-frame, Tryz.f13, It.pv, Ans.pv, intP, strP, w, wc, wp, hv, hid]
  · simp only [It.pv, intP, strP] at w
    simp [-frame, Tryz.f13, It.pv, Ans.pv, intP, strP, w, hv]
end Go.Proofs.YtlhjljplfmmoaaaGreatDoor.Ev
