/- decimal.Parse: what it computes. -/
import Derived.Test.YtlhjljplfmmoaaaGreatDoorN15
namespace Go.Proofs.YtlhjljplfmmoaaaGreatDoor.Ev
open Go
set_option linter.unusedSimpArgs false
set_option linter.unusedVariables false
set_option maxRecDepth 10000
set_option maxHeartbeats 4000000
open Nb
def zeroW (l : List UInt8) : Bool := match l with
  | c :: _ :: _ => decide (c.toNat = 48)
  | _ => false
structure DecR where
  neg : Bool
  mag : Nat
  places : Nat
  err : Int
def parseD (s : List UInt8) : DecR :=
  if (!digB (cutL 46 (cutP 45 s).1).1 || ((cutL 46 (cutP 45 s).1).2.2 && !digB (cutL 46 (cutP 45 s).1).2.1) || zeroW (cutL 46 (cutP 45 s).1).1) = true then ⟨false, 0, 0, 2⟩
  else if ((cutP 45 s).2 && (Lib.trimLeftS ((cutL 46 (cutP 45 s).1).1 ++ (cutL 46 (cutP 45 s).1).2.1) [48]).isEmpty) = true then ⟨false, 0, 0, 2⟩
  else if 9 < (cutL 46 (cutP 45 s).1).2.1.length ∨ 400 < (cutL 46 (cutP 45 s).1).1.length then ⟨false, 0, 0, 5⟩
  else
    ⟨(cutP 45 s).2 && decide ((if (cutL 46 (cutP 45 s).1).2.2 = true then decV (cutL 46 (cutP 45 s).1).1 * 10 ^ (cutL 46 (cutP 45 s).1).2.1.length + decV (cutL 46 (cutP 45 s).1).2.1 else decV (cutL 46 (cutP 45 s).1).1) ≠ 0),
      if (cutL 46 (cutP 45 s).1).2.2 = true then decV (cutL 46 (cutP 45 s).1).1 * 10 ^ (cutL 46 (cutP 45 s).1).2.1.length + decV (cutL 46 (cutP 45 s).1).2.1 else decV (cutL 46 (cutP 45 s).1).1,
      (cutL 46 (cutP 45 s).1).2.1.length, 0⟩
theorem decV_cons0 (l : List UInt8) : decV (48 :: l) = decV l := by simp [decV]
theorem decV_trim : ∀ l : List UInt8, decV (Lib.trimLeftS l [48]) = decV l
  | [] => rfl
  | x :: t => by
    unfold Lib.trimLeftS
    rw [List.dropWhile_cons]
    split
    · rename_i h
      have : x = 48 := by simpa using h
      rw [this, decV_cons0]
      exact decV_trim t
    · rfl
theorem trim_mem {l : List UInt8} {x : UInt8} (h : x ∈ Lib.trimLeftS l [48]) : x ∈ l := (List.dropWhile_sublist _).subset h
theorem trim_head : ∀ {l : List UInt8} {c : UInt8} {t : List UInt8}, Lib.trimLeftS l [48] = c :: t → c ≠ 48
  | [], _, _, h => by simp [Lib.trimLeftS] at h
  | x :: u, c, t, h => by
    unfold Lib.trimLeftS at h
    rw [List.dropWhile_cons] at h
    split at h
    · exact trim_head (l := u) h
    · rename_i hx
      obtain ⟨rfl, _⟩ := List.cons.inj h
      simpa using hx
theorem trim_len (l : List UInt8) : (Lib.trimLeftS l [48]).length ≤ l.length := (List.dropWhile_sublist _).length_le
theorem zeroH_ne {l : List UInt8} (h : ∀ c t, l = c :: t → c ≠ 48) : zeroH l = false := by
  match l with
  | [] => rfl
  | [_] => rfl
  | c :: d :: t =>
    have := h c (d :: t) rfl
    have : ¬ c.toNat = 48 := fun he => this (UInt8.toNat_inj.1 he)
    simp [zeroH, this]
theorem parseN_ok {l : List UInt8} (h1 : digB l = true) (h2 : zeroH l = false) (h3 : l.length ≤ 400) : parseN l = (ofN (decV l), 0) := by
  unfold digB at h1
  simp only [Bool.and_eq_true, Bool.not_eq_true'] at h1
  unfold parseN
  rw [if_neg (by rw [h1.1, h2]; decide), if_neg (by rw [h1.2]; decide), if_neg (by omega)]
theorem decV_len {l : List UInt8} (h : l.all digC = true) : (ofN (decV l)).length ≤ l.length :=
  length_ofN_le.2 (Nat.lt_of_lt_of_le (decV_lt l h) (Nat.pow_le_pow_left (by decide) _))
theorem zeroW_H (l : List UInt8) : zeroW l = zeroH l := by
  match l with
  | [] => rfl
  | [_] => rfl
  | _ :: _ :: _ => rfl
theorem cutP_len (c : UInt8) : ∀ l, (cutP c l).1.length ≤ l.length
  | [] => Nat.le_refl _
  | x :: t => by simp only [cutP]; split <;> simp
theorem mul_lenG {W K a b : Nat} (hW : (ofN W).length ≤ a) (hK : (ofN K).length ≤ b) : (ofN (W * K)).length ≤ a + b := by
  have h1 : W * K < B ^ (a + b) := by
    rw [Nat.pow_add]
    exact Nat.mul_lt_mul_of_lt_of_le (length_ofN_le.1 hW) (Nat.le_of_lt (length_ofN_le.1 hK)) (Bp _)
  exact length_ofN_le.2 h1
theorem add_lenG {X P a b : Nat} (hX : (ofN X).length ≤ a) (hP : (ofN P).length ≤ b) (hb : b ≤ a) : (ofN (X + P)).length ≤ a + 1 := by
  have h1 := length_ofN_le.1 hX
  have h2 : P < B ^ a := Nat.lt_of_lt_of_le (length_ofN_le.1 hP) (Nat.pow_le_pow_right B_pos hb)
  have h3 : B ^ a * 2 ≤ B ^ a * B := Nat.mul_le_mul_left _ (by decide)
  have h4 : B ^ (a + 1) = B ^ a * B := Nat.pow_succ ..
  exact length_ofN_le.2 (by omega)
theorem decParse_n (n : Nat) (s : List UInt8) (hl : s.length ≤ 1000000000000000000) (hn : s.length + 3000 ≤ n) :
    (ev Tryz.prog tab (n + 6)).callA 49 [strL s] = some [decP (parseD s).neg (parseD s).mag (parseD s).places, intP (parseD s).err] := by
  have hq : ∀ z : Int, intP z = .val (.int .i64 z) := fun _ => rfl
  have hS : ∀ m, strL m = .val (.string ⟨m.toArray⟩) := fun _ => rfl
  obtain ⟨R, hR⟩ : ∃ R, R = parseD s := ⟨_, rfl⟩
  rw [← hR]
  have hc1 := cutPrefix_l (n + 2) s 45 (by omega)
  have htl := cutP_len 45 s
  unfold parseD at hR
  obtain ⟨text, htext⟩ : ∃ text, text = (cutP 45 s).1 := ⟨_, rfl⟩
  obtain ⟨neg, hneg⟩ : ∃ neg, neg = (cutP 45 s).2 := ⟨_, rfl⟩
  rw [← htext, ← hneg] at hc1 hR
  rw [← htext] at htl
  have hc2 := cut_l n text 46 (by omega)
  obtain ⟨i1, i2, i3⟩ := cut_inv (c := 46) (l := text)
  obtain ⟨w, hw⟩ : ∃ w, w = (cutL 46 text).1 := ⟨_, rfl⟩
  obtain ⟨p, hp⟩ : ∃ p, p = (cutL 46 text).2.1 := ⟨_, rfl⟩
  obtain ⟨b, hb⟩ : ∃ b, b = (cutL 46 text).2.2 := ⟨_, rfl⟩
  rw [← hw, ← hp, ← hb] at hc2 hR i1 i2
  have hwp : w.length + p.length ≤ text.length := by
    cases b with
    | true => rw [i1 rfl, List.length_append, List.length_cons]; omega
    | false => rw [(i2 rfl).2]; rw [(i2 rfl).1]; simp
  have hd1 := digits_l (n + 3) w (by omega)
  have hd2 := digits_l (n + 3) p (by omega)
  clear i3
  simp only [hS, strP] at hc1 hc2 hd1 hd2
  rw [callA_fn rfl Tryz.func49 rfl rfl rfl]
  have err : ∀ e, R = ⟨false, 0, 0, e⟩ → [decP R.neg R.mag R.places, intP R.err] = [PV.agg [.val (.bool false), .sl [], .val (.int .i64 0)], .val (.int .i64 e)] := fun e h => by
    rw [h]; simp [decP, ofN_zero, lim_nil, hq]
  by_cases hdw : digB w = true
  · have hwne : w ≠ [] := by intro h; rw [h] at hdw; simp [digB] at hdw
    have hwall : w.all digC = true := by unfold digB at hdw; simp only [Bool.and_eq_true] at hdw; exact hdw.2
    obtain ⟨c, wt, hcw⟩ : ∃ c wt, w = c :: wt := by
      cases w with
      | nil => exact absurd rfl hwne
      | cons c wt => exact ⟨c, wt, rfl⟩
    have hw0 : (ByteArray.mk w.toArray)[0]? = some c := by rw [ba_get, hcw]; rfl
    rw [hdw] at hd1
    by_cases hpd : b = true ∧ digB p = false
    · rw [err 2 (by rw [hR, if_pos (by rw [hdw, hpd.1, hpd.2]; rfl)])]
      obtain ⟨rfl, hpd2⟩ := hpd
      rw [hpd2] at hd2
      simp [-frame, -getElem?_pos, -step_some, stepN, Tryz.f49, hS, hq, hc1, hc2, hd1, hd2, sz_dec, sz_int, sz_nat, ze_dec, Tryz.underlying67, Tryz.underlying64]
    · have hb' : (b = true ∧ digB p = true) ∨ (b = false ∧ True) := by
        cases b with
        | false => exact .inr ⟨rfl, trivial⟩
        | true => exact .inl ⟨rfl, by cases h : digB p with | true => rfl | false => exact absurd ⟨rfl, h⟩ hpd⟩
      by_cases hzw : zeroW w = true
      · rw [err 2 (by rw [hR, if_pos (by rw [hzw]; simp)])]
        have g1 : (1 : Int) < (w.length : Int) := by
          rw [hcw] at hzw ⊢
          cases wt with
          | nil => simp [zeroW] at hzw
          | cons d u => simp only [List.length_cons]; omega
        have g2 : (c.toNat : Int) = 48 := by
          rw [hcw] at hzw
          cases wt with
          | nil => simp [zeroW] at hzw
          | cons d u => simp [zeroW] at hzw; omega
        rcases hb' with ⟨rfl, hpd'⟩ | ⟨rfl, hpd'⟩
        · simp [-frame, -getElem?_pos, -step_some, stepN, Tryz.f49, hS, hq, hc1, hc2, hd1, hd2, hpd', ba_size, hw0, g1, g2, sz_dec, sz_int, sz_nat, ze_dec, Tryz.underlying67, Tryz.underlying64]
        · simp [-frame, -getElem?_pos, -step_some, stepN, Tryz.f49, hS, hq, hc1, hc2, hd1, ba_size, hw0, g1, g2, sz_dec, sz_int, sz_nat, ze_dec, Tryz.underlying67, Tryz.underlying64]
      · have hz : (¬ (1 : Int) < (w.length : Int) ∧ True) ∨ ((1 : Int) < (w.length : Int) ∧ ¬ (c.toNat : Int) = 48) := by
          rw [hcw] at hzw ⊢
          cases wt with
          | nil => left; simp
          | cons d u =>
            right
            refine ⟨by simp only [List.length_cons]; omega, fun h => hzw ?_⟩
            simp [zeroW]; omega
        have hzw' : zeroW w = false := by simpa using hzw
        rw [if_neg (by
          rw [hdw, hzw']
          rcases hb' with ⟨h1, h2⟩ | ⟨h1, _⟩
          · rw [h1, h2]; decide
          · rw [h1]; simp)] at hR
        obtain ⟨WP, hWP⟩ : ∃ WP, WP = w ++ p := ⟨_, rfl⟩
        obtain ⟨A, hA⟩ : ∃ A, A = Lib.trimLeftS WP [48] := ⟨_, rfl⟩
        rw [← hWP, ← hA] at hR
        have a1 : ByteArray.mk w.toArray ++ ByteArray.mk p.toArray = ByteArray.mk WP.toArray := by rw [hWP]; exact ba_app w p
        have s1 : w.length + p.length ≤ 9223372036854775807 := by omega
        have ht1 : (ev Tryz.prog tab (n + 5)).callA 82 [.val (.string ⟨WP.toArray⟩), .val (.string ⟨#[48]⟩)] = some [.val (.string ⟨A.toArray⟩)] := by rw [hA]; exact trimLeft_g (n + 4) WP [48] (by decide) (by decide)
        by_cases hnA : neg = true ∧ A = []
        · rw [err 2 (by rw [hR, if_pos (by rw [hnA.1, hnA.2]; rfl)])]
          obtain ⟨rfl, rfl⟩ := hnA
          have hl0 : (ByteArray.mk #[]).toList = [] := ba_list []
          rcases hb' with ⟨rfl, hpd'⟩ | ⟨rfl, hpd'⟩ <;> rcases hz with ⟨g1, g2⟩ | ⟨g1, g2⟩
          all_goals
            simp [-frame, -getElem?_pos, -step_some, stepN, Tryz.f49, hS, hq, hc1, hc2, hd1, hd2, hpd', ba_size, hw0, g1, g2, a1, s1, ht1, hl0, sz_dec, sz_int, sz_nat, ze_dec, Tryz.underlying67, Tryz.underlying64]
        · have hng : (neg = false ∧ True) ∨ (neg = true ∧ A.isEmpty = false) := by
            cases neg with
            | false => exact .inl ⟨rfl, trivial⟩
            | true => exact .inr ⟨rfl, by cases A with | nil => exact absurd ⟨rfl, rfl⟩ hnA | cons _ _ => rfl⟩
          rw [if_neg (by
            rcases hng with ⟨h1, _⟩ | ⟨h1, h2⟩
            · rw [h1]; simp
            · rw [h1]; simp [h2])] at hR
          by_cases h9 : 9 < p.length ∨ 400 < w.length
          · rw [if_pos h9] at hR
            rw [err 5 hR]
            have h9' : ((9 : Int) < (p.length : Int) ∧ True) ∨ (¬ (9 : Int) < (p.length : Int) ∧ (400 : Int) < (w.length : Int)) := by
              by_cases h : 9 < p.length
              · exact .inl ⟨by omega, trivial⟩
              · exact .inr ⟨by omega, by omega⟩
            clear hR err
            rcases hb' with ⟨rfl, hpd'⟩ | ⟨rfl, hpd'⟩ <;> rcases hz with ⟨g1, g2⟩ | ⟨g1, g2⟩ <;> rcases hng with ⟨rfl, n2⟩ | ⟨rfl, n2⟩ <;> rcases h9' with ⟨q1, q2⟩ | ⟨q1, q2⟩
            all_goals
              simp [-frame, -getElem?_pos, -step_some, stepN, Tryz.f49, hS, hq, hc1, hc2, hd1, hd2, hpd', ba_size, ba_list, hw0, g1, g2, a1, s1, ht1, n2, q1, q2, sz_dec, sz_int, sz_nat, ze_dec, Tryz.underlying67, Tryz.underlying64]
          · rw [if_neg h9] at hR
            have q1 : ¬ (9 : Int) < (p.length : Int) := by omega
            have q2 : ¬ (400 : Int) < (w.length : Int) := by omega
            obtain ⟨W, hW⟩ : ∃ W, W = decV w := ⟨_, rfl⟩
            obtain ⟨P, hP⟩ : ∃ P, P = decV p := ⟨_, rfl⟩
            obtain ⟨k, hk⟩ : ∃ k, k = p.length := ⟨_, rfl⟩
            rw [← hW, ← hP, ← hk] at hR
            have hWl : (ofN W).length ≤ 400 := by rw [hW]; have := decV_len hwall; omega
            have hpw := parse_n (n + 2) ⟨w.toArray⟩ w (by simp) (by rw [ba_size]; omega) (by rw [ba_size]; omega) (by omega)
            rw [parseN_ok hdw (by rw [← zeroW_H]; exact hzw') (by omega), ← hW] at hpw
            simp only [strP, hq] at hpw
            rcases hb' with ⟨rfl, hpd'⟩ | ⟨rfl, hpd'⟩
            · have hpall : p.all digC = true := by unfold digB at hpd'; simp only [Bool.and_eq_true] at hpd'; exact hpd'.2
              have hPl : (ofN P).length ≤ 9 := by rw [hP]; have := decV_len hpall; omega
              simp only [if_true] at hR
              obtain ⟨M, hM⟩ : ∃ M, M = W * 10 ^ k + P := ⟨_, rfl⟩
              rw [← hM] at hR
              have ho10 : (ev Tryz.prog tab (n + 5)).callA 75 [.val (.int .u64 10)] = some [.sl (lim (ofN 10))] := of_n (n + 3) 10 (by decide) (by omega)
              have ho0 : (ev Tryz.prog tab (n + 5)).callA 75 [.val (.int .u64 0)] = some [.sl (lim (ofN 0))] := of_n (n + 3) 0 (by decide) (by omega)
              have h10 : (ofN 10).length ≤ 1 := length_ofN_le.2 (by decide)
              have hpow := pow_n (n + 2) (ofN 10) k (LB_ofN _) (by omega) (by omega) (by omega)
              rw [val_ofN] at hpow
              simp only [hq] at hpow
              have hkl : (ofN (10 ^ k)).length ≤ 10 := by
                have := pow_len (LB_ofN 10) k
                rw [val_ofN] at this
                have h2 : (ofN 10).length * k ≤ 1 * k := Nat.mul_le_mul_right _ h10
                omega
              have hmul := mul_n (n + 3) (ofN W) (ofN (10 ^ k)) (LB_ofN _) (LB_ofN _) (by omega) (by omega) (by omega)
              rw [val_ofN, val_ofN] at hmul
              have hml : (ofN (W * 10 ^ k)).length ≤ 410 := mul_lenG hWl hkl
              have hadd := add_n (n + 3) (ofN (W * 10 ^ k)) (ofN P) (LB_ofN _) (LB_ofN _) (by omega) (by omega) (by omega)
              rw [val_ofN, val_ofN, ← hM] at hadd
              have hMl : (ofN M).length ≤ 411 := by rw [hM]; exact add_lenG hml hPl (by omega)
              obtain ⟨F, hF⟩ : ∃ F, F = Lib.trimLeftS p [48] := ⟨_, rfl⟩
              have ht2 : (ev Tryz.prog tab (n + 5)).callA 82 [.val (.string ⟨p.toArray⟩), .val (.string ⟨#[48]⟩)] = some [.val (.string ⟨F.toArray⟩)] := by rw [hF]; exact trimLeft_g (n + 4) p [48] (by decide) (by decide)
              have hFP : decV F = P := by rw [hF, decV_trim, hP]
              have hmk := make_n (n + 2) neg (ofN M) (LB_ofN M) (by omega) (by omega)
              rw [val_ofN] at hmk
              have hres : [decP R.neg R.mag R.places, intP R.err] = [PV.agg [.val (.bool (neg && decide (M ≠ 0))), .sl (lim (ofN M)), .val (.int .i64 (k : Int))], .val (.int .i64 0)] := by rw [hR]; rfl
              rw [hres]
              obtain ⟨ng, hng'⟩ : ∃ ng, ng = (neg && decide (M ≠ 0)) := ⟨_, rfl⟩
              rw [← hng'] at hmk ⊢
              simp only [zP] at hmk
              by_cases hF0 : F = []
              · have hP0 : P = 0 := by rw [← hFP, hF0]; rfl
                rw [hP0] at hadd
                subst hF0
                have hl0 : (ByteArray.mk #[]).toList = [] := ba_list []
                clear hR err hres
                subst hk
                rcases hz with ⟨g1, g2⟩ | ⟨g1, g2⟩ <;> rcases hng with ⟨rfl, n2⟩ | ⟨rfl, n2⟩
                all_goals
                  simp [-frame, -getElem?_pos, -step_some, stepN, Tryz.f49, hS, hq, hc1, hc2, hd1, hd2, hpd', ba_size, ba_list, hw0, g1, g2, a1, s1, ht1, n2, q1, q2, hpw, ho10, ho0, hpow, hmul, hadd, ht2, hl0, hmk, sz_dec, sz_int, sz_nat, ze_dec, Tryz.underlying67, Tryz.underlying64]
              · have hF1 : F.isEmpty = false := by
                  cases F with
                  | nil => exact absurd rfl hF0
                  | cons _ _ => rfl
                have hFd : digB F = true := by
                  unfold digB
                  rw [hF1]
                  simp only [Bool.not_false, Bool.true_and, List.all_eq_true]
                  intro x hx
                  rw [hF] at hx
                  exact List.all_eq_true.1 hpall x (trim_mem hx)
                have hFl : F.length ≤ p.length := by rw [hF]; exact trim_len p
                have hpF := parse_n (n + 2) ⟨F.toArray⟩ F (by simp) (by rw [ba_size]; omega) (by rw [ba_size]; omega) (by omega)
                rw [parseN_ok hFd (zeroH_ne fun c t h => trim_head (by rw [← hF]; exact h)) (by omega), hFP] at hpF
                simp only [strP, hq] at hpF
                clear hR err hres
                subst hk
                rcases hz with ⟨g1, g2⟩ | ⟨g1, g2⟩ <;> rcases hng with ⟨rfl, n2⟩ | ⟨rfl, n2⟩
                all_goals
                  simp [-frame, -getElem?_pos, -step_some, stepN, Tryz.f49, hS, hq, hc1, hc2, hd1, hd2, hpd', ba_size, ba_list, hw0, g1, g2, a1, s1, ht1, n2, q1, q2, hpw, ho10, ho0, hpow, hmul, hadd, ht2, hF1, hpF, hmk, sz_dec, sz_int, sz_nat, ze_dec, Tryz.underlying67, Tryz.underlying64]
            · have hp0 : p = [] := (i2 rfl).2
              simp only [Bool.false_eq_true, if_false] at hR
              have hmk := make_n (n + 2) neg (ofN W) (LB_ofN W) (by omega) (by omega)
              rw [val_ofN] at hmk
              have hk0 : k = 0 := by rw [hk, hp0]; rfl
              have hres : [decP R.neg R.mag R.places, intP R.err] = [PV.agg [.val (.bool (neg && decide (W ≠ 0))), .sl (lim (ofN W)), .val (.int .i64 (p.length : Int))], .val (.int .i64 0)] := by rw [hR, ← hk]; rfl
              rw [hres]
              obtain ⟨ng, hng'⟩ : ∃ ng, ng = (neg && decide (W ≠ 0)) := ⟨_, rfl⟩
              rw [← hng'] at hmk ⊢
              simp only [zP] at hmk
              clear hR err hres
              rcases hz with ⟨g1, g2⟩ | ⟨g1, g2⟩ <;> rcases hng with ⟨rfl, n2⟩ | ⟨rfl, n2⟩
              all_goals
                simp [-frame, -getElem?_pos, -step_some, stepN, Tryz.f49, hS, hq, hc1, hc2, hd1, ba_size, ba_list, hw0, g1, g2, a1, s1, ht1, n2, q1, q2, hpw, hmk, sz_dec, sz_int, sz_nat, ze_dec, Tryz.underlying67, Tryz.underlying64]
  · have hdw' : digB w = false := by simpa using hdw
    rw [err 2 (by rw [hR, if_pos (by rw [hdw']; rfl)])]
    rw [hdw'] at hd1
    simp [-frame, -getElem?_pos, -step_some, stepN, Tryz.f49, hS, hq, hc1, hc2, hd1, sz_dec, sz_int, sz_nat, ze_dec, Tryz.underlying67, Tryz.underlying64]
end Go.Proofs.YtlhjljplfmmoaaaGreatDoor.Ev
