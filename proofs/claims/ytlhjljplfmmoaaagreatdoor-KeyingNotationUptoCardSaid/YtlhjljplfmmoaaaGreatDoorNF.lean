/- The plain laws of the notation: Print and Parse invert each other. -/
import Derived.Test.YtlhjljplfmmoaaaGreatDoorN20
namespace Go.Proofs.YtlhjljplfmmoaaaGreatDoor.Ev
open Go
set_option linter.unusedSimpArgs false
set_option linter.unusedVariables false
set_option maxRecDepth 10000
set_option maxHeartbeats 4000000
open Nb
theorem u8_eq {a b : UInt8} (h : a.toNat = b.toNat) : a = b := UInt8.toNat_inj.1 h
theorem digit_back {c : UInt8} (h : digC c = true) : UInt8.ofNat (48 + (c.toNat - 48)) = c := by
  simp [digC] at h
  rw [show 48 + (c.toNat - 48) = c.toNat by omega]; simp
theorem digit_of {d : Nat} (h : d < 10) : digC (UInt8.ofNat (48 + d)) = true ∧ (UInt8.ofNat (48 + d)).toNat = 48 + d := by
  have h1 : (UInt8.ofNat (48 + d)).toNat = 48 + d := by simp; omega
  exact ⟨by unfold digC; rw [h1]; simp; omega, h1⟩
theorem decV_one (c : UInt8) : decV [c] = c.toNat - 48 := by simp [decV]
theorem decV_cons (c : UInt8) (t : List UInt8) : decV (c :: t) = (c.toNat - 48) * 10 ^ t.length + decV t := by
  have := decV_append [c] t
  rwa [decV_one] at this
theorem padD_dec {l : List UInt8} (h : l.all digC = true) : padD l.length (decV l) = l := by
  have key : ∀ i, i ≤ l.length → padD i (decV (l.take i)) = l.take i := by
    intro i
    induction i with
    | zero => intro _; simp [padD]
    | succ i ih =>
      intro hi
      obtain ⟨c, hc⟩ : ∃ c, l[i]? = some c := ⟨l[i], by simp⟩
      have hd : digC c = true := List.all_eq_true.1 h c (List.mem_of_getElem? hc)
      have hd' := hd
      simp [digC] at hd'
      rw [decV_take hc, padD]
      have h1 : (decV (l.take i) * 10 + (c.toNat - 48)) / 10 = decV (l.take i) := by omega
      have h2 : (decV (l.take i) * 10 + (c.toNat - 48)) % 10 = c.toNat - 48 := by omega
      rw [h1, h2, ih (by omega), digit_back hd, List.take_add_one, hc]
      rfl
  have := key l.length (Nat.le_refl _)
  rwa [List.take_length] at this
theorem dec_canon {c : UInt8} {t : List UInt8} (h : (c :: t).all digC = true) (hc : t = [] ∨ c.toNat ≠ 48) : Lib.decDigits (decV (c :: t)) = c :: t := by
  simp only [List.all_cons, Bool.and_eq_true] at h
  have hd := h.1
  simp [digC] at hd
  by_cases ht : t = []
  · subst ht
    rw [decV_one, dec_small (by omega), digit_back h.1]
  · have h48 : c.toNat ≠ 48 := by
      rcases hc with h | h
      · exact absurd h ht
      · exact h
    rw [decV_cons, dec_pad _ _ _ (by omega) (decV_lt t h.2), padD_dec h.2, dec_small (by omega), digit_back h.1]
    rfl
theorem dec_facts : ∀ k, (Lib.decDigits k).all digC = true ∧ decV (Lib.decDigits k) = k ∧ (1 ≤ k → ∃ c t, Lib.decDigits k = c :: t ∧ c.toNat ≠ 48) := by
  intro k
  induction k using Nat.strongRecOn with
  | ind k ih =>
    by_cases h : k < 10
    · rw [dec_small h]
      have hd := digit_of h
      refine ⟨by simp only [List.all_cons, List.all_nil, Bool.and_true]; exact hd.1, by rw [decV_one, hd.2]; omega, fun h1 => ⟨_, [], rfl, by rw [hd.2]; omega⟩⟩
    · have h10 : 10 ≤ k := by omega
      have hi := ih (k / 10) (by omega)
      have hd := digit_of (show k % 10 < 10 by omega)
      rw [dec_step h10]
      refine ⟨by rw [List.all_append, hi.1]; simp only [List.all_cons, List.all_nil, Bool.and_true, Bool.true_and]; exact hd.1, ?_, fun _ => ?_⟩
      · rw [decV_snoc, hi.2.1, hd.2]; omega
      · obtain ⟨c, t, h1, h2⟩ := hi.2.2 (by omega)
        exact ⟨c, t ++ [_], by rw [h1]; rfl, h2⟩
theorem decV_zeros (k : Nat) : decV (List.replicate k 48) = 0 := by
  induction k with
  | zero => rfl
  | succ k ih => rw [List.replicate_succ, decV_cons0, ih]
theorem zeros_dig (k : Nat) : (List.replicate k (48 : UInt8)).all digC = true := by
  rw [List.all_eq_true]; intro x hx; rw [List.eq_of_mem_replicate hx]; rfl
theorem padT_facts (p m : Nat) : (padT p (Lib.decDigits m)).all digC = true ∧ decV (padT p (Lib.decDigits m)) = m := by
  have h := dec_facts m
  unfold padT
  split
  · exact ⟨by rw [List.all_append, zeros_dig, h.1]; rfl, by rw [decV_append, decV_zeros, h.2.1]; omega⟩
  · exact ⟨h.1, h.2.1⟩
theorem not_mem_dig {c : UInt8} {l : List UInt8} (h : l.all digC = true) (hc : digC c = false) : c ∉ l := fun hm => by
  have := List.all_eq_true.1 h c hm
  rw [hc] at this; cases this
theorem trim_zero {l : List UInt8} (h : l.all digC = true) (hv : decV l ≠ 0) : (Lib.trimLeftS l [48]).isEmpty = false := by
  cases ht : Lib.trimLeftS l [48] with
  | nil =>
    have := decV_trim l
    rw [ht] at this
    exact absurd this.symm hv
  | cons _ _ => rfl
theorem trim_pos {l : List UInt8} (h : l.all digC = true) (ht : (Lib.trimLeftS l [48]).isEmpty = false) : decV l ≠ 0 := by
  rw [← decV_trim]
  cases hc : Lib.trimLeftS l [48] with
  | nil => rw [hc] at ht; cases ht
  | cons c t =>
    have h1 := trim_head hc
    have h2 : digC c = true := List.all_eq_true.1 h c (trim_mem (by rw [hc]; simp))
    simp [digC] at h2
    have h3 : c.toNat ≠ 48 := fun he => h1 (u8_eq he)
    rw [decV_cons]
    have : 1 * 10 ^ t.length ≤ (c.toNat - 48) * 10 ^ t.length := Nat.mul_le_mul_right _ (by omega)
    have := Nat.pow_pos (n := t.length) (show 0 < 10 by decide)
    omega
theorem parse_print (neg : Bool) (m : Nat) (hm : m < T) (hs : neg = true → m ≠ 0) : parseD (printD neg m 3) = ⟨neg, m, 3, 0⟩ := by
  obtain ⟨Q, hQ⟩ : ∃ Q, Q = padT 3 (Lib.decDigits m) := ⟨_, rfl⟩
  have hf := padT_facts 3 m
  have hl := padT_len 3 (Lib.decDigits m)
  have hdl := dec_len hm
  have hQl : Q.length ≤ 10 := by
    rw [hQ]; unfold padT
    split
    · rw [List.length_append, List.length_replicate]; omega
    · omega
  rw [← hQ] at hf hl
  obtain ⟨W, hW⟩ : ∃ W, W = Q.take (Q.length - 3) := ⟨_, rfl⟩
  obtain ⟨P, hP⟩ : ∃ P, P = Q.drop (Q.length - 3) := ⟨_, rfl⟩
  have hWP : W ++ P = Q := by rw [hW, hP]; exact List.take_append_drop _ _
  have hPl : P.length = 3 := by rw [hP, List.length_drop]; omega
  have hWl : W.length = Q.length - 3 := by rw [hW, List.length_take]; omega
  have hWd : W.all digC = true := by rw [hW, List.all_eq_true]; exact fun x hx => List.all_eq_true.1 hf.1 x (List.mem_of_mem_take hx)
  have hPd : P.all digC = true := by rw [hP, List.all_eq_true]; exact fun x hx => List.all_eq_true.1 hf.1 x (List.mem_of_mem_drop hx)
  have hWne : W ≠ [] := by intro h; rw [h] at hWl; simp at hWl; omega
  have hPne : P ≠ [] := by intro h; rw [h] at hPl; simp at hPl
  have hzw : zeroW W = false := by
    by_cases h1 : (Lib.decDigits m).length ≤ 3
    · have : Q.length = 4 := by rw [hQ]; unfold padT; rw [if_pos h1, List.length_append, List.length_replicate]; omega
      match W, hWl with
      | [], _ => rfl
      | [_], _ => rfl
      | _ :: _ :: _, h => simp at h; omega
    · have hQD : Q = Lib.decDigits m := by rw [hQ]; unfold padT; rw [if_neg h1]
      have hm1 : 1 ≤ m := by
        cases m with
        | zero => rw [dec_small (by decide)] at h1; simp at h1
        | succ m => omega
      obtain ⟨c, t, h2, h3⟩ := (dec_facts m).2.2 hm1
      match hWW : W with
      | [] => rfl
      | [_] => rfl
      | a :: b :: u =>
        have : a = c := by
          have h4 : Q = c :: t := by rw [hQD, h2]
          rw [← hWP] at h4
          exact (List.cons.inj h4).1
        simp [zeroW, this, h3]
  have hsp : printD neg m 3 = sgnL neg m ++ (W ++ 46 :: P) := by
    unfold printD
    rw [← hQ, ← hW, ← hP]; simp
  have hcut : cutL 46 (W ++ 46 :: P) = (W, P, true) := cut_yes P (not_mem_dig hWd rfl)
  have hcp : cutP 45 (printD neg m 3) = (W ++ 46 :: P, neg) := by
    rw [hsp]
    cases neg
    · have : sgnL false m = [] := by unfold sgnL; split <;> simp
      rw [this]
      cases hWW : W with
      | nil => exact absurd hWW hWne
      | cons a u =>
        have ha : a ≠ 45 := by
          intro h
          have : digC a = true := by rw [hWW] at hWd; simp only [List.all_cons, Bool.and_eq_true] at hWd; exact hWd.1
          rw [h] at this; cases this
        simp [cutP, ha]
    · have : sgnL true m = [45] := by unfold sgnL; rw [if_neg (hs rfl), if_pos rfl]
      rw [this]; simp [cutP]
  unfold parseD
  rw [hcp]
  simp only [hcut]
  have hdW : digB W = true := by unfold digB; rw [hWd]; cases W with | nil => exact absurd rfl hWne | cons _ _ => rfl
  have hdP : digB P = true := by unfold digB; rw [hPd]; cases P with | nil => exact absurd rfl hPne | cons _ _ => rfl
  rw [if_neg (by rw [hdW, hdP, hzw]; decide)]
  have hM : decV W * 10 ^ P.length + decV P = m := by rw [← decV_append, hWP]; exact hf.2
  rw [if_neg (by
    cases neg
    · simp
    · rw [hWP, trim_zero hf.1 (by rw [hf.2]; exact hs rfl)]; decide)]
  rw [if_neg (by omega)]
  rw [hPl] at hM
  simp only [if_true, hPl, hM]
  congr 1
  cases neg
  · rfl
  · simp [hs rfl]
theorem print_parse (s : List UInt8) (he : (parseD s).err = 0) (hp : (parseD s).places = 3) : printD (parseD s).neg (parseD s).mag 3 = s ∧ ((parseD s).neg = true → (parseD s).mag ≠ 0) := by
  obtain ⟨text, htext⟩ : ∃ text, text = (cutP 45 s).1 := ⟨_, rfl⟩
  obtain ⟨neg, hneg⟩ : ∃ neg, neg = (cutP 45 s).2 := ⟨_, rfl⟩
  obtain ⟨i1, i2, i3⟩ := cut_inv (c := 46) (l := text)
  obtain ⟨w, hw⟩ : ∃ w, w = (cutL 46 text).1 := ⟨_, rfl⟩
  obtain ⟨p, hpp⟩ : ∃ p, p = (cutL 46 text).2.1 := ⟨_, rfl⟩
  obtain ⟨b, hb⟩ : ∃ b, b = (cutL 46 text).2.2 := ⟨_, rfl⟩
  rw [← hw, ← hpp, ← hb] at i1 i2
  obtain ⟨R, hR⟩ : ∃ R, R = parseD s := ⟨_, rfl⟩
  rw [← hR] at he hp ⊢
  unfold parseD at hR
  rw [← htext, ← hneg, ← hw, ← hpp, ← hb] at hR
  split at hR
  · rw [hR] at he; cases he
  · rename_i h1
    split at hR
    · rw [hR] at he; cases he
    · rename_i h2
      split at hR
      · rw [hR] at he; cases he
      · rename_i h3
        have hpl : p.length = 3 := by rw [hR] at hp; exact hp
        simp only [Bool.or_eq_true, Bool.and_eq_true, Bool.not_eq_true', not_or, not_and, Bool.not_eq_false, Bool.not_eq_true] at h1 h2
        obtain ⟨⟨h1w, h1p⟩, h1z⟩ := h1
        have hbt : b = true := by
          cases hbb : b with
          | true => rfl
          | false => have := (i2 hbb).2; rw [this] at hpl; simp at hpl
        have hdw : w.isEmpty = false ∧ w.all digC = true := by unfold digB at h1w; simpa using h1w
        have hdp : p.all digC = true := by have := h1p hbt; unfold digB at this; simp only [Bool.and_eq_true] at this; exact this.2
        have hwne : w ≠ [] := by intro h; rw [h] at hdw; cases hdw.1
        have htx : text = w ++ 46 :: p := i1 hbt
        rw [hbt] at hR
        simp only [if_true] at hR
        rw [← decV_append] at hR
        obtain ⟨M, hM⟩ : ∃ M, M = decV (w ++ p) := ⟨_, rfl⟩
        rw [← hM] at hR
        have hall : (w ++ p).all digC = true := by rw [List.all_append, hdw.2, hdp]; rfl
        have hnM : neg = true → M ≠ 0 := fun hn => by rw [hM]; exact trim_pos hall (h2 hn)
        have hRn : R.neg = neg := by
          rw [hR]
          cases neg
          · rfl
          · simp [hnM rfl]
        have hRm : R.mag = M := by rw [hR]
        rw [hRn, hRm]
        refine ⟨?_, hnM⟩
        have hQ : padT 3 (Lib.decDigits M) = w ++ p := by
          cases hcw : w with
          | nil => exact absurd hcw hwne
          | cons c wt =>
            by_cases hwt : wt = []
            · have h4 : (w ++ p).length = 4 := by rw [hcw, hwt, List.length_append, hpl]; rfl
              have h5 := padD_dec hall
              rw [h4, ← hM] at h5
              have hM4 : M < 10 ^ 4 := by rw [hM, ← h4]; exact decV_lt _ hall
              rw [padD_eq 3 M hM4] at h5
              rw [← hcw, ← h5]
              unfold padT
              split
              · rfl
              · rw [show 3 + 1 - (Lib.decDigits M).length = 0 by omega]; rfl
            · have hc48 : c.toNat ≠ 48 := by
                intro h
                rw [hcw] at h1z
                cases wt with
                | nil => exact hwt rfl
                | cons d u => simp [zeroW, h] at h1z
              have hdc : Lib.decDigits M = w ++ p := by
                rw [hM, hcw, List.cons_append]
                exact dec_canon (by rw [← List.cons_append, ← hcw]; exact hall) (.inr hc48)
              rw [← hcw, hdc]
              unfold padT
              rw [if_neg]
              rw [hcw, List.length_append, List.length_cons, hpl]
              omega
        have hlen : (w ++ p).length - 3 = w.length := by rw [List.length_append, hpl]; omega
        unfold printD
        rw [hQ, hlen, List.take_left, List.drop_left]
        cases s with
        | nil => simp [cutP] at htext; rw [htext] at htx; simp at htx
        | cons x t =>
          have hcpe : cutP 45 (x :: t) = if x = 45 then (t, true) else (x :: t, false) := rfl
          rw [hcpe] at htext hneg
          by_cases hx : x = 45
          · rw [if_pos hx] at htext hneg
            simp only at htext hneg
            have : sgnL neg M = [45] := by unfold sgnL; rw [if_neg (hnM hneg), if_pos hneg]
            rw [this, hx, ← htext, htx]; simp
          · rw [if_neg hx] at htext hneg
            simp only at htext hneg
            have : sgnL neg M = [] := by unfold sgnL; rw [hneg]; split <;> simp
            rw [this, ← htext, htx]; simp
theorem join_split (c : UInt8) : ∀ l, joinB [c] (splitL c l) = l
  | [] => rfl
  | x :: t => by
    have ih := join_split c t
    by_cases h : (x == c) = true
    · rw [splitL_hit h]
      have hx := eq_of_beq h
      cases hs : splitL c t with
      | nil => exact absurd hs (split_ne c t)
      | cons w ws =>
        rw [hs] at ih
        show [] ++ [c] ++ joinB [c] (w :: ws) = _
        rw [ih, hx]; rfl
    · cases hs : splitL c t with
      | nil => exact absurd hs (split_ne c t)
      | cons w ws =>
        rw [splitL_miss h hs]
        rw [hs] at ih
        cases ws with
        | nil =>
          show x :: w = _
          have : w = t := ih
          rw [this]
        | cons v vs =>
          show x :: w ++ [c] ++ joinB [c] (v :: vs) = _
          have : w ++ [c] ++ joinB [c] (v :: vs) = t := ih
          rw [← this]; rfl
theorem split_join (c : UInt8) : ∀ ws : List (List UInt8), ws ≠ [] → (∀ w, w ∈ ws → c ∉ w) → splitL c (joinB [c] ws) = ws
  | [], h, _ => absurd rfl h
  | [w], _, h => by
    show splitL c w = [w]
    rw [split_cut, cut_no (h w (by simp))]; rfl
  | w :: v :: t, _, h => by
    have ih := split_join c (v :: t) (by simp) fun u hu => h u (List.mem_cons_of_mem _ hu)
    show splitL c (w ++ [c] ++ joinB [c] (v :: t)) = _
    rw [List.append_assoc, split_cut]
    rw [show w ++ ([c] ++ joinB [c] (v :: t)) = w ++ c :: joinB [c] (v :: t) from rfl, cut_yes _ (h w (by simp))]
    simp only [if_true, ih]
end Go.Proofs.YtlhjljplfmmoaaaGreatDoor.Ev
namespace Go.Proofs.YtlhjljplfmmoaaaGreatDoor.Ev
open Go
set_option linter.unusedSimpArgs false
set_option linter.unusedVariables false
set_option maxRecDepth 10000
set_option maxHeartbeats 4000000
open Nb
theorem empty_eq {s : ByteArray} (h : emptyS s = true) : s = ⟨#[]⟩ := by
  unfold emptyS at h
  rw [ba_toList] at h
  apply ba_ext
  simpa using h
theorem text_eq (s : ByteArray) : (⟨s.data.toList.toArray⟩ : ByteArray) = s := by apply ba_ext; simp
theorem bad_print {it : It} {a : Ans} (h : (printK it a).2 ≠ 0) : (printK it a).1 = [] := by
  unfold printK at h ⊢
  split
  · rename_i h0
    rw [if_pos h0] at h
    split
    · rename_i h1; rw [if_pos h1] at h; exact absurd rfl h
    · rename_i h1; rw [if_neg h1] at h
      split
      · rename_i h2; rw [if_pos h2] at h; exact absurd rfl h
      · rename_i h2; rw [if_neg h2] at h
        split
        · rename_i h3; rw [if_pos h3] at h
          split
          · rename_i h4; rw [if_pos h4] at h; exact absurd rfl h
          · rfl
        · rename_i h3; rw [if_neg h3] at h
          split
          · rename_i h4; rw [if_pos h4] at h; exact absurd rfl h
          · rename_i h4; rw [if_neg h4] at h; exact absurd rfl h
  · rfl
theorem bad_parse {it : It} {s : List UInt8} (h : (parseK it s).2 ≠ 0) : (parseK it s).1 = zeroA := by
  unfold parseK at h ⊢
  split
  · rename_i h0
    rw [if_pos h0] at h
    split
    · rfl
    · rename_i a ha
      rw [ha] at h
      simp only at h
      split
      · rename_i h1; rw [if_pos h1] at h; exact absurd rfl h
      · rfl
  · rfl
theorem parse_of {it : It} {s : List UInt8} {a : Ans} (hv : validI it = 0) (hr : readK it s = .inr a) (hk : kvalidI it a = 0) : parseK it s = (a, 0) := by
  unfold parseK
  rw [if_pos hv, hr]
  simp only [hk, if_true]
theorem int64_val {v : Int} (h : v.natAbs < 10000000) : int64Z (decide (v < 0)) v.natAbs = (v, true) := by
  unfold int64Z
  rw [if_pos (by omega)]
  by_cases hv : v < 0
  · simp only [hv, decide_true, if_true]; rw [show -(v.natAbs : Int) = v by omega]
  · simp only [hv, decide_false, Bool.false_eq_true, if_false]; rw [show (v.natAbs : Int) = v by omega]
theorem dec_lt10 {k : Nat} (h : k < 100) : (Lib.decDigits k).length ≤ 2 := by
  by_cases h1 : k < 10
  · rw [dec_small h1]; simp
  · rw [dec_step (by omega), dec_small (by omega)]; simp
theorem word_ok {c : Int} (h0 : 0 ≤ c) (h9 : c ≤ 9) : okW (wordK c) = true ∧ valW (wordK c) = c ∧ (44 : UInt8) ∉ wordK c := by
  obtain ⟨k, hk⟩ : ∃ k, k = (c + 1).toNat := ⟨_, rfl⟩
  have hk1 : 1 ≤ k := by omega
  have hkc : (k : Int) - 1 = c := by omega
  have hl := dec_lt10 (show k < 100 by omega)
  obtain ⟨f1, f2, f3⟩ := dec_facts k
  obtain ⟨d, t, h1, h2⟩ := f3 hk1
  clear f3
  unfold wordK
  rw [← hk]
  refine ⟨?_, ?_, not_mem_dig f1 rfl⟩
  · unfold okW
    rw [f1]
    have : headW (Lib.decDigits k) = true := by rw [h1]; simp [headW, h2]
    rw [this, show decide ((Lib.decDigits k).length ≤ 7) = true from decide_eq_true (by omega)]
    rfl
  · unfold valW; rw [f2]; exact hkc
theorem join_head (w : List UInt8) (ws : List (List UInt8)) : ∃ r, joinB [44] (w :: ws) = w ++ r := by
  cases ws with
  | nil => exact ⟨[], by simp [joinB]⟩
  | cons v t => exact ⟨[44] ++ joinB [44] (v :: t), by show w ++ [44] ++ joinB [44] (v :: t) = _; rw [List.append_assoc]⟩
theorem fwd {it : It} {a : Ans} (he : (printK it a).2 = 0) : parseK it (printK it a).1 = (a, 0) := by
  by_cases hk0 : kvalidI it a = 0
  · obtain ⟨hv, hid, hb, hom⟩ := bad_not2 hk0
    have hkind := (valid_kind hv).1
    unfold badB at hb
    simp only [Bool.or_eq_false_iff, Bool.and_eq_false_iff, decide_eq_false_iff_not, Bool.not_eq_false', decide_eq_true_eq] at hb
    obtain ⟨⟨hb1, hb2⟩, hb3⟩ := hb
    unfold printK at he ⊢
    rw [if_pos hk0] at he ⊢
    obtain ⟨aid, ach, av, at', om⟩ := a
    simp only at hid hb1 hb2 hb3 hom he ⊢
    subst hid
    cases om
    · rw [if_neg (by decide)] at he ⊢
      have hin : inner it.kind it.opts.length ⟨it.id, ach, av, at', false⟩ = 0 := by
        rcases hom with h | h
        · cases h
        · exact h
      by_cases h4 : it.kind = 4
      · rw [if_pos h4]
        have hc : ach = [] := by
          rcases hb1 with h | h
          · exact List.eq_nil_of_length_eq_zero (by omega)
          · rw [h4] at h; simp [chosenB] at h
        have ht : at' = ⟨#[]⟩ := by
          rcases hb3 with h | h
          · exact empty_eq h
          · rw [h4] at h; simp [writtenC] at h
        subst hc ht
        have hr : -9999999 ≤ av ∧ av ≤ 9999999 := by
          unfold inner at hin
          rw [if_pos h4] at hin
          simp only at hin
          split at hin
          · cases hin
          · omega
        have hpp := parse_print (decide (av < 0)) av.natAbs (by unfold T; omega) (by intro h; simp at h; omega)
        refine parse_of hv ?_ hk0
        unfold readK
        rw [if_neg (by
          intro h
          have := congrArg List.length h
          have hl := padT_len 3 (Lib.decDigits av.natAbs)
          unfold printD at this
          simp only [List.length_append, List.length_take, List.length_drop, List.length_cons, List.length_nil] at this
          omega), if_pos h4, hpp]
        simp only [ne_eq, not_true, or_self, if_false]
        rw [int64_val (by omega)]
        simp
      · rw [if_neg h4] at he ⊢
        have hv0 : av = 0 := by
          rcases hb2 with h | h
          · exact h
          · simp [h4] at h
        subst hv0
        by_cases h56 : writtenC it.kind = true
        · rw [if_pos h56] at he ⊢
          have hc : ach = [] := by
            rcases hb1 with h | h
            · exact List.eq_nil_of_length_eq_zero (by omega)
            · simp [writtenC] at h56
              simp [chosenB] at h
              omega
          subst hc
          split at he
          · rename_i hp
            rw [if_pos hp]
            refine parse_of hv ?_ hk0
            unfold readK
            rw [if_neg (by intro h; have := (List.cons.inj h).1; cases this), if_neg h4, if_pos h56]
            have hcp : cutP 58 (58 :: at'.data.toList) = (at'.data.toList, true) := by simp [cutP]
            rw [hcp, if_pos ⟨rfl, hp⟩]
          · cases he
        · rw [if_neg h56] at he ⊢
          have h56' : writtenC it.kind = false := by simpa using h56
          have ht : at' = ⟨#[]⟩ := by
            rcases hb3 with h | h
            · exact empty_eq h
            · simp [h56'] at h
          subst ht
          by_cases hc : ach = []
          · rw [if_pos hc]
            subst hc
            refine parse_of hv ?_ hk0
            unfold readK
            rw [if_neg (by decide), if_neg h4, if_neg h56]
            simp [listL]
          · rw [if_neg hc]
            have hall : ach.all (inB it.opts.length) = true := by
              have h5 : ¬ it.kind = 5 := by intro h5; rw [h5] at h56'; cases h56'
              have h6 : ¬ it.kind = 6 := by intro h6; rw [h6] at h56'; cases h56'
              unfold inner at hin
              rw [if_neg h4, if_neg h5, if_neg h6] at hin
              simp only at hin
              unfold choicesI at hin
              split at hin
              · rename_i h1; exact h1
              · cases hin
            have hopt := valid_opts hv
            have hr : ∀ x, x ∈ ach → 0 ≤ x ∧ x ≤ 9 := fun x hx => by
              have := List.all_eq_true.1 hall x hx
              simp [inB] at this
              omega
            refine parse_of hv ?_ hk0
            have hsp : splitL 44 (joinB [44] (ach.map wordK)) = ach.map wordK := split_join 44 _ (by simpa using hc) fun w hw => by
              obtain ⟨x, hx, rfl⟩ := List.mem_map.1 hw
              exact (word_ok (hr x hx).1 (hr x hx).2).2.2
            have hhead : ∀ e : UInt8, digC e = false → joinB [44] (ach.map wordK) ≠ [e] := fun e he' h => by
              cases hcc : ach with
              | nil => exact hc hcc
              | cons x t =>
                rw [hcc, List.map_cons] at h
                obtain ⟨r, h1⟩ := join_head (wordK x) (t.map wordK)
                rw [h1] at h
                obtain ⟨d, u, h2, h3⟩ := (dec_facts (x + 1).toNat).2.2 (by have := hr x (by rw [hcc]; simp); omega)
                have h4' : wordK x = d :: u := h2
                rw [h4', List.cons_append] at h
                have h5 := (List.cons.inj h).1
                have h6 := (dec_facts (x + 1).toNat).1
                rw [h2, List.all_cons, Bool.and_eq_true, h5, he'] at h6
                cases h6.1
            unfold readK
            rw [if_neg (hhead 45 rfl), if_neg h4, if_neg h56]
            unfold listL
            rw [if_neg (hhead 42 rfl), hsp, if_pos (by
              rw [List.all_eq_true]
              intro w hw
              obtain ⟨x, hx, rfl⟩ := List.mem_map.1 hw
              exact (word_ok (hr x hx).1 (hr x hx).2).1)]
            simp only [List.map_map]
            have : List.map (valW ∘ wordK) ach = ach := by
              conv => rhs; rw [← List.map_id ach]
              apply List.map_congr_left
              intro x hx
              exact (word_ok (hr x hx).1 (hr x hx).2).2.1
            rw [this]
    · rw [if_pos rfl]
      have hc : ach = [] := by
        rcases hb1 with h | h
        · exact List.eq_nil_of_length_eq_zero (by omega)
        · simp at h
      have hv0 : av = 0 := by
        rcases hb2 with h | h
        · exact h
        · simp at h
      have ht : at' = ⟨#[]⟩ := by
        rcases hb3 with h | h
        · exact empty_eq h
        · simp at h
      subst hc hv0 ht
      refine parse_of hv ?_ hk0
      unfold readK
      rw [if_pos rfl]
  · unfold printK at he
    rw [if_neg hk0] at he
    exact absurd he hk0
theorem read_err {it : It} {s : List UInt8} {e : Int} (h : readK it s = .inl e) : e ≠ 0 := by
  unfold readK at h
  split at h
  · cases h
  · split at h
    · split at h
      · cases h; decide
      · split at h
        · cases h; decide
        · cases h
    · split at h
      · split at h
        · cases h
        · cases h; decide
      · split at h
        · cases h
        · cases h; decide
theorem word_back {w : List UInt8} (h : okW w = true) : wordK (valW w) = w := by
  unfold okW at h
  simp only [Bool.and_eq_true, decide_eq_true_eq] at h
  obtain ⟨⟨h1, h2⟩, h3⟩ := h
  cases w with
  | nil => cases h1
  | cons c t =>
    have hc : c.toNat ≠ 48 := by intro he; simp [headW, he] at h1
    unfold wordK valW
    rw [show ((decV (c :: t) : Int) - 1 + 1).toNat = decV (c :: t) by omega]
    exact dec_canon h3 (.inr hc)
theorem cutP_back {s : List UInt8} {c : UInt8} (h : (cutP c s).2 = true) : s = c :: (cutP c s).1 := by
  cases s with
  | nil => cases h
  | cons x t =>
    have he : cutP c (x :: t) = if x = c then (t, true) else (x :: t, false) := rfl
    rw [he] at h ⊢
    split
    · rename_i hx; rw [hx]
    · rename_i hx; rw [if_neg hx] at h; cases h
theorem bwd {it : It} {s : List UInt8} (hf : (parseK it s).2 = 0) : printK it (parseK it s).1 = (s, 0) ∧ kvalidI it (parseK it s).1 = 0 := by
  by_cases hv : validI it = 0
  · cases hr : readK it s with
    | inl e =>
      unfold parseK at hf
      rw [if_pos hv, hr] at hf
      exact absurd hf (read_err hr)
    | inr a =>
      by_cases hk : kvalidI it a = 0
      · rw [parse_of hv hr hk]
        refine ⟨?_, hk⟩
        simp only
        obtain ⟨_, hid, hb, hom⟩ := bad_not2 hk
        unfold printK
        rw [if_pos hk]
        unfold readK at hr
        split at hr
        · rename_i hs
          cases hr
          rw [if_pos rfl, hs]
        · rename_i hs
          split at hr
          · rename_i h4
            split at hr
            · cases hr
            · rename_i hep
              split at hr
              · cases hr
              · rename_i hok
                cases hr
                rw [if_neg (by simp), if_pos h4]
                simp only [not_or, ne_eq, Decidable.not_not] at hep
                obtain ⟨hp1, hp2⟩ := print_parse s hep.1 hep.2
                obtain ⟨R, hR⟩ : ∃ R, R = parseD s := ⟨_, rfl⟩
                rw [← hR] at hp1 hp2 hok hom ⊢
                have hin : inner it.kind it.opts.length ⟨it.id, [], (int64Z R.neg R.mag).1, ⟨#[]⟩, false⟩ = 0 := by
                  rcases hom with h | h
                  · cases h
                  · exact h
                unfold inner at hin
                rw [if_pos h4] at hin
                simp only at hin ⊢
                have hrg : -9999999 ≤ (int64Z R.neg R.mag).1 ∧ (int64Z R.neg R.mag).1 ≤ 9999999 := by
                  split at hin
                  · cases hin
                  · omega
                have hz : decide ((int64Z R.neg R.mag).1 < 0) = R.neg ∧ (int64Z R.neg R.mag).1.natAbs = R.mag := by
                  obtain ⟨neg, mag, pl, er⟩ := R
                  simp only at hp2 hrg ⊢
                  unfold int64Z at hrg ⊢
                  split at hrg
                  · rename_i hm
                    rw [if_pos hm]
                    cases neg
                    · simp
                    · have := hp2 rfl
                      simp; omega
                  · split at hrg
                    · simp at hrg
                    · rename_i hm1 hm2
                      exfalso
                      apply hok
                      unfold int64Z
                      rw [if_neg hm1, if_neg hm2]
                rw [hz.1, hz.2, hp1]
          · rename_i h4
            split at hr
            · rename_i h56
              split at hr
              · rename_i hc
                cases hr
                rw [if_neg (by simp), if_neg h4, if_pos h56]
                simp only
                rw [if_pos hc.2, ← cutP_back hc.1]
              · cases hr
            · rename_i h56
              split at hr
              · rename_i l hl
                cases hr
                rw [if_neg (by simp), if_neg h4, if_neg h56]
                simp only
                unfold listL at hl
                split at hl
                · rename_i hs42
                  cases hl
                  rw [if_pos rfl, hs42]
                · split at hl
                  · rename_i hall
                    cases hl
                    have hne : splitL 44 s ≠ [] := split_ne 44 s
                    rw [if_neg (by simpa using hne), List.map_map]
                    have : List.map (wordK ∘ valW) (splitL 44 s) = splitL 44 s := by
                      conv => rhs; rw [← List.map_id (splitL 44 s)]
                      apply List.map_congr_left
                      intro w hw
                      exact word_back (List.all_eq_true.1 hall w hw)
                    rw [this, join_split]
                  · cases hl
              · cases hr
      · unfold parseK at hf
        rw [if_pos hv, hr] at hf
        simp only [hk, if_false] at hf
  · unfold parseK at hf
    rw [if_neg hv] at hf
    exact absurd hf hv
end Go.Proofs.YtlhjljplfmmoaaaGreatDoor.Ev
