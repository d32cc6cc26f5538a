/- nat.Print, Mul, Add, Pow: what they compute. -/
import Derived.Test.YtlhjljplfmmoaaaGreatDoorNB
import Derived.Test.YtlhjljplfmmoaaaGreatDoorNA
namespace Go.Proofs.YtlhjljplfmmoaaaGreatDoor.Ev
open Go
set_option linter.unusedSimpArgs false
set_option linter.unusedVariables false
set_option maxRecDepth 10000
set_option maxHeartbeats 4000000
open Nb
def bp8 (c : UInt8) : PV := .val (.int .u8 c.toNat)
theorem u8s_bp8 {s : ByteArray} {l : List UInt8} (hl : s.data.toList = l) : u8s s = l.map bp8 := by unfold u8s; rw [hl]; rfl
theorem strOf_bp8 (b : List UInt8) : strOf (b.map bp8) = some b := by
  induction b with
  | nil => rfl
  | cons c t ih =>
    show (strOf (t.map bp8)).map (UInt8.ofNat ((c.toNat : Int).toNat) :: ·) = _
    rw [ih]; simp
theorem sized_bp8 (b : List UInt8) : sizedAll 1 (b.map bp8) = true := by
  induction b with
  | nil => rfl
  | cons c t ih => simp only [List.map_cons, sizedAll, ih]; rfl
theorem byteOk5 : byteOk Tryz.prog 5 = true := by kernel_rfl
theorem isStr9 : isStr Tryz.prog 9 = true := by kernel_rfl
theorem callG (n : Nat) {f : FuncId} {g : List PV → Option (List PV)} (h : tabF f = some g) (ps : List PV) : (ev Tryz.prog tab (n + 1)).callA f ps = g ps := by
  have h' : tab.fn f = some g := h
  rw [callA_succ]
  simp only [callAof, h']
theorem fmtU_g (n u : Nat) (h : u < 18446744073709551616) : (ev Tryz.prog tab (n + 1)).callA 106 [.val (.int .u64 u), .val (.int .i64 10)] = some [.val (.string ⟨(decL u).toArray⟩)] := by
  rw [callG n (g := gFmtU) (by kernel_rfl)]
  show (if 10 = 10 ∧ u ≤ 18446744073709551615 then some [PV.val (.string ⟨(decL u).toArray⟩)] else none) = _
  rw [if_pos ⟨rfl, by omega⟩]
theorem decF_eq' : ∀ (k u : Nat), u < 10 ^ (k + 1) → decF (k + 1) u = Lib.decDigits u
  | 0, u, h => by
    unfold decF
    rw [Lib.decDigits, if_pos (by simpa using h), dif_pos (by simpa using h)]
  | k + 1, u, h => by
    unfold decF
    rw [Lib.decDigits]
    by_cases h0 : u < 10
    · rw [if_pos h0, dif_pos h0]
    · rw [if_neg h0, dif_neg h0, decF_eq' k (u / 10) (by rw [Nat.pow_succ] at h; omega)]
set_option maxRecDepth 100000 in
theorem decL_eq' {u : Nat} (h : u < 18446744073709551616) : decL u = Lib.decDigits u := by
  unfold decL
  exact decF_eq' 19 u (by omega)
theorem wrap_one : IntKind.i64.wrap 1 = 1 := wrap_i64 (by decide) (by decide)
theorem print_n (n : Nat) (a : List Nat) (hb : LB a) (hl : a.length ≤ 1000000000000) (hn : 2 * a.length + 10 ≤ n) :
    (ev Tryz.prog tab (n + 3)).callA 73 [.sl (lim a)] = some [strP ⟨(Lib.decDigits (val a)).toArray⟩] := by
  have hB : B = 4294967296 := rfl
  have hT : T = 1000000000 := rfl
  have hno := norm_n n a hb (by omega) (by omega)
  obtain ⟨V, hV⟩ : ∃ V, V = val a := ⟨_, rfl⟩
  rw [← hV] at hno ⊢
  have hlV : (ofN V).length ≤ a.length := by rw [hV]; exact len_ofN_le hb
  have hpl := parts_len (n := V)
  have hst : ∀ z : ByteArray, strP z = .val (.string z) := fun _ => rfl
  rw [callA_fn rfl Tryz.func73 rfl rfl rfl]
  simp [-frame, -getElem?_pos, -step_some, stepN, Tryz.f73, hno, hst]
  refine loop_rule (fun d st => ∃ (v : Nat) (ps : List Nat) (so : Store) (A : List (Nat × TV)), st = { tm := frameOf 60 A, sus := [], so := so } ∧ look A 3 = .sl (lim (ofN v)) ∧ (partsOf v).length = d ∧ v ≤ V ∧ ps ++ partsOf v = partsOf V ∧
    ((so = [] ∧ look A 4 = .nil ∧ ps = []) ∨ ∃ y, so = [(22, .row 125 [y]), (23, .row 125 (lim ps))] ∧ look A 4 = .row 23 0 ps.length ∧ ps ≠ [])) ?_ _ (partsOf V).length _ (by omega) ⟨V, [], _, _, rfl, by simp, rfl, Nat.le_refl _, rfl, .inl ⟨rfl, by simp, rfl⟩⟩
  rintro d st m ⟨v, ps, so, A, rfl, k3, rfl, hvV, hps, hso⟩ ih
  have hvl : (ofN v).length ≤ a.length := by
    refine Nat.le_trans (length_ofN_le.2 ?_) hlV
    exact Nat.lt_of_le_of_lt hvV (ofN_lt V)
  have hpsl : ps.length ≤ (partsOf V).length := by rw [← hps]; simp
  by_cases hv0 : v = 0
  · subst hv0
    rw [partsOf_zero, List.append_nil] at hps
    rw [ofN_zero] at k3
    rcases hso with ⟨rfl, k4, rfl⟩ | ⟨y, rfl, k4, hne⟩
    · have hV0 : V = 0 := partsOf_nil.1 hps.symm
      subst hV0
      have h0 : Lib.decDigits 0 = [48] := dec_small (by decide)
      rw [h0]
      simp [-frame, -getElem?_pos, -step_some, stepN, k3, k4, lim]
    · have hm0 : 0 < ps.length := List.length_pos_iff.2 hne
      have hm0' : ¬ (ps.length : Int) = 0 := by omega
      have hm0'' : ¬ ps.length = 0 := by omega
      have hml : ps.length ≤ 2 * a.length := by omega
      have hw1 : IntKind.i64.wrap ((ps.length : Int) - 1) = (ps.length : Int) - 1 := by rw [wrap_i64 (by omega) (by omega)]
      simp [-frame, -getElem?_pos, -step_some, stepN, k3, k4, lim, hne, hm0', hw1]
      have hlimd : List.map lp ps = lim ps := rfl
      simp only [hlimd]
      refine loop_rule (fun d st => ∃ (k : Nat) (out : List UInt8) (so : Store) (A : List (Nat × TV)), st = { tm := frameOf 60 A, sus := [], so := so } ∧ look A 4 = .row 23 0 ps.length ∧ look A 8 = .val (.int .i64 ((k : Int) - 1)) ∧ k = d ∧ k ≤ ps.length ∧ out.length ≤ 9 * (ps.length - k) ∧
        ((k = ps.length ∧ out = [] ∧ look A 7 = .nil ∧ so = [(22, .row 125 [y]), (23, .row 125 (lim ps))]) ∨
         (k < ps.length ∧ out = Lib.decDigits (V / T ^ k) ∧ look A 7 = .row 57 0 out.length ∧ (so = [(22, .row 125 [y]), (23, .row 125 (lim ps)), (57, .row 5 (out.map bp8))] ∨
          ∃ z, so = [(22, .row 125 [y]), (23, .row 125 (lim ps)), (52, .row 5 [z]), (57, .row 5 (out.map bp8))])))) ?_ _ ps.length _ (by omega) ⟨ps.length, [], _, _, rfl, by simp [k4], by simp, rfl, Nat.le_refl _, by simp, .inl ⟨rfl, rfl, by simp, rfl⟩⟩
      clear k3 k4 ih
      rintro d st m2 ⟨k, out, so, A, rfl, k4, k8, rfl, hk, hol, hso⟩ ih
      by_cases hk0 : k = 0
      · subst hk0
        rcases hso with ⟨h, _⟩ | ⟨_, ho, k7, hso⟩
        · omega
        · simp only [Nat.pow_zero, Nat.div_one] at ho
          have htk : List.take out.length (List.map bp8 out) = List.map bp8 out := List.take_of_length_le (by simp)
          rcases hso with rfl | ⟨z, rfl⟩
          · simp [-frame, -getElem?_pos, -step_some, stepN, k4, k7, k8, htk, strOf_bp8, ← ho]
          · simp [-frame, -getElem?_pos, -step_some, stepN, k4, k7, k8, htk, strOf_bp8, ← ho]
      · obtain ⟨j, rfl⟩ : ∃ j, k = j + 1 := ⟨k - 1, by omega⟩
        have e0 : ((j + 1 : Nat) : Int) - 1 = (j : Int) := by omega
        rw [e0] at k8
        obtain ⟨w, hw⟩ : ∃ w, w = V / T ^ j := ⟨_, rfl⟩
        have hdj : ps.drop j = partsOf w := by rw [hps, drop_parts, hw]
        have hjm : j < ps.length := by omega
        have hwz : w ≠ 0 := by
          intro h
          rw [h, partsOf_zero] at hdj
          have := congrArg List.length hdj
          simp at this
          omega
        have hwd : V / T ^ (j + 1) = w / T := by rw [hw, Nat.div_div_eq_div_mul, Nat.pow_succ]
        obtain ⟨x, hx⟩ : ∃ x, ps[j]? = some x := ⟨ps[j], by simp⟩
        have hxw : x = w % T := by
          have h1 := congrArg (fun l => l[0]?) hdj
          simp only [List.getElem?_drop, Nat.add_zero, partsOf_pos hwz] at h1
          rw [hx] at h1
          simpa using h1
        have hxT : x < T := by rw [hxw]; exact Nat.mod_lt _ T_pos
        have hx' := lim_get hx
        have e1 := w64 (show x < 18446744073709551616 by omega)
        obtain ⟨D, hD⟩ : ∃ D, D = Lib.decDigits x := ⟨_, rfl⟩
        have hDl : D.length ≤ 9 := by rw [hD]; exact dec_len hxT
        have hf := fmtU_g (n + 1) x (by omega)
        rw [decL_eq' (by omega), ← hD] at hf
        have hu8 : u8s ⟨D.toArray⟩ = D.map bp8 := u8s_bp8 (by simp)
        have hwm : IntKind.i64.wrap ((j : Int) - 1) = (j : Int) - 1 := by rw [wrap_i64 (by omega) (by omega)]
        have m1 : D.length ≤ 9223372036854775807 := by omega
        have m2' : D.length ≤ 140737488355328 := by omega
        rcases hso with ⟨hkm, rfl, k7, rfl⟩ | ⟨hkm, ho, k7, hso⟩
        · have ht : ¬ (j : Int) < (ps.length : Int) - 1 := by omega
          have hwT : w / T = 0 := by
            rw [← hwd]
            apply partsOf_nil.1
            rw [← drop_parts, ← hps, hkm, List.drop_length]
          have hDw : D = Lib.decDigits w := by
            have hww : w % T = w := by
              have := Nat.div_add_mod w T
              rw [hwT] at this
              omega
            rw [hD, hxw, hww]
          simp [-frame, -getElem?_pos, -step_some, stepN, k4, k7, k8, hjm, hx', lp, e1, hf, hw1, ht, byteOk5, isStr9, hu8, hwm, sized_bp8, m1, m2']
          exact ih j _ (by omega) ⟨j, D, _, _, rfl, by simp [k4], by simp, rfl, by omega, by omega, .inr ⟨by omega, by rw [hDw, hw], by simp, .inl rfl⟩⟩
        · have ht : (j : Int) < (ps.length : Int) - 1 := by omega
          rw [hwd] at ho
          have hwT : w / T ≠ 0 := by
            intro h
            have h1 := drop_parts (j + 1) V
            rw [← hps, hwd, h, partsOf_zero] at h1
            have := congrArg List.length h1
            simp at this
            omega
          have hfin : out ++ (List.replicate (9 - D.length) 48 ++ D) = Lib.decDigits w := by
            rw [ho, hD, ← dec_group hwT hxT, hxw, Nat.mul_comm, Nat.div_add_mod]
          have e9 : IntKind.i64.wrap (9 - (D.length : Int)) = ((9 - D.length : Nat) : Int) := by rw [wrap_i64 (by omega) (by omega)]; omega
          obtain ⟨c9, hc9⟩ : ∃ c9, c9 = 9 - D.length := ⟨_, rfl⟩
          rw [← hc9] at e9 hfin
          have hsz9 : (ByteArray.mk D.toArray).size = D.length := by simp [ByteArray.size]
          have hS1 : (PV.val (.int .u8 48)) = bp8 48 := rfl
          rcases hso with rfl | ⟨z, rfl⟩
          all_goals simp [-frame, -getElem?_pos, -step_some, stepN, k4, k7, k8, hjm, hx', lp, e1, hf, hw1, ht, hsz9, e9]
          all_goals
            refine loop_rule (fun d st => ∃ (c : Nat) (so : Store) (A : List (Nat × TV)), st = { tm := frameOf 60 A, sus := [], so := so } ∧ look A 4 = .row 23 0 ps.length ∧ look A 8 = .val (.int .i64 (j : Int)) ∧ look A 9 = .val (.string ⟨D.toArray⟩) ∧ look A 48 = .val (.int .i64 (c9 : Int)) ∧ look A 49 = .val (.int .i64 (c : Int)) ∧ d = c9 - c ∧ c ≤ c9 ∧
              ((c = 0 ∧ look A 7 = .row 57 0 out.length ∧ (so = [(22, .row 125 [y]), (23, .row 125 (lim ps)), (57, .row 5 (out.map bp8))] ∨ ∃ z, so = [(22, .row 125 [y]), (23, .row 125 (lim ps)), (52, .row 5 [z]), (57, .row 5 (out.map bp8))])) ∨
               ∃ z, so = [(22, .row 125 [y]), (23, .row 125 (lim ps)), (52, .row 5 [z]), (53, .row 5 ((out ++ List.replicate c 48).map bp8))] ∧ look A 7 = .row 53 0 (out ++ List.replicate c 48).length)) ?_ _ c9 _ (by omega)
              ⟨0, _, _, rfl, by simp [k4], by simp [k8], by simp, by simp, by simp, rfl, by omega, .inl ⟨rfl, by simp [k7], by simp⟩⟩
            clear k4 k7 k8
            rintro d st m3 ⟨c, so, A, rfl, k4, k8, k9, k48, k49, rfl, hc, hso⟩ ih2
            obtain ⟨o', ho'⟩ : ∃ o', o' = out ++ List.replicate c 48 := ⟨_, rfl⟩
            have hol' : o'.length ≤ out.length + 9 := by rw [ho']; simp; omega
            by_cases hlt : c < c9
            · have hd : decide ((c : Int) < (c9 : Int)) = true := by simp [hlt]
              have hw := wrap_succ hlt (by omega)
              have ho2 : o' ++ [48] = out ++ List.replicate (c + 1) 48 := by rw [ho', List.append_assoc, List.replicate_succ']
              have q1 : out.length ≤ 9223372036854775806 := by omega
              have q2 : out.length + 1 ≤ 9223372036854775807 := by omega
              have q3 : out.length + 1 ≤ 140737488355328 := by omega
              have q3' : out.length ≤ 140737488355327 := by omega
              have r1 : o'.length ≤ 9223372036854775806 := by omega
              have r2 : o'.length + 1 ≤ 9223372036854775807 := by omega
              have r3 : o'.length + 1 ≤ 140737488355328 := by omega
              have r3' : o'.length ≤ 140737488355327 := by omega
              rcases hso with ⟨rfl, k7, rfl | ⟨z, rfl⟩⟩ | ⟨z, rfl, k7⟩
              · simp [-frame, -getElem?_pos, -step_some, stepN, k4, k7, k8, k9, k48, k49, hd, hlt, hw, q1, q2, q3, q3', wrap_one]
                exact ih2 _ _ (by omega) ⟨0 + 1, _, _, rfl, by simp [k4], by simp [k8], by simp [k9], by simp [k48], by simp, rfl, by omega, .inr ⟨_, by simp [bp8]; rfl, by simp⟩⟩
              · simp [-frame, -getElem?_pos, -step_some, stepN, k4, k7, k8, k9, k48, k49, hd, hlt, hw, q1, q2, q3, q3', wrap_one]
                exact ih2 _ _ (by omega) ⟨0 + 1, _, _, rfl, by simp [k4], by simp [k8], by simp [k9], by simp [k48], by simp, rfl, by omega, .inr ⟨_, by simp [bp8]; rfl, by simp⟩⟩
              · rw [← ho'] at k7 ⊢
                simp [-frame, -getElem?_pos, -step_some, stepN, k4, k7, k8, k9, k48, k49, hd, hlt, hw, r1, r2, r3, r3']
                exact ih2 _ _ (by omega) ⟨c + 1, _, _, rfl, by simp [k4], by simp [k8], by simp [k9], by simp [k48], by simp, rfl, by omega, .inr ⟨_, by rw [← ho2]; simp [bp8]; rfl, by rw [← ho2]; simp⟩⟩
            · obtain rfl : c = c9 := by omega
              have hd : decide ((c : Int) < (c : Int)) = false := by simp
              have hfin' : o' ++ D = Lib.decDigits w := by rw [ho', List.append_assoc]; exact hfin
              have r1 : o'.length + D.length ≤ 9223372036854775807 := by omega
              have r2 : o'.length + D.length ≤ 140737488355328 := by omega
              have hol2 : (o' ++ D).length ≤ 9 * (ps.length - j) := by
                rw [List.length_append, ho', List.length_append, List.length_replicate]; omega
              rcases hso with ⟨rfl, k7, hso⟩ | ⟨z, rfl, k7⟩
              · have hoo : o' = out := by rw [ho']; simp
                rw [hoo] at hfin' r1 r2 hol2
                rcases hso with rfl | ⟨z, rfl⟩
                all_goals
                  simp [-frame, -getElem?_pos, -step_some, stepN, k4, k7, k8, k9, k48, k49, byteOk5, isStr9, hu8, hwm, sized_bp8, r1, r2]
                  exact ih j _ (by omega) ⟨j, out ++ D, _, _, rfl, by simp [k4], by simp, rfl, by omega, hol2, .inr ⟨by omega, by rw [hfin', hw], by simp, by simp⟩⟩
              · rw [← ho'] at k7 ⊢
                simp [-frame, -getElem?_pos, -step_some, stepN, k4, k7, k8, k9, k48, k49, byteOk5, isStr9, hu8, hwm, sized_bp8, r1, r2]
                exact ih j _ (by omega) ⟨j, o' ++ D, _, _, rfl, by simp [k4], by simp, rfl, by omega, hol2, .inr ⟨by omega, by rw [hfin', hw], by simp, by simp⟩⟩
  · have hdv := divSmall_n n (ofN v) 1000000000 (LB_ofN v) (by omega) (by omega) (by decide) (by decide)
    rw [val_ofN] at hdv
    have hpp := partsOf_pos hv0
    have hlen0 : 0 < (ofN v).length := by
      have : (ofN v).length ≠ 0 := fun h => hv0 (ofN_eq_nil.1 (List.eq_nil_of_length_eq_zero h))
      omega
    obtain ⟨q, hq⟩ : ∃ q, q = v / T := ⟨_, rfl⟩
    obtain ⟨r, hr⟩ : ∃ r, r = v % T := ⟨_, rfl⟩
    have hdv' : (ev Tryz.prog tab (n + 2)).callA 105 [.sl (lim (ofN v)), .val (.int .u32 1000000000)] = some [.sl (lim (ofN q)), .val (.int .u32 r)] := by rw [hq, hr]; exact hdv
    have hps' : (ps ++ [r]) ++ partsOf q = partsOf V := by rw [← hps, hpp, hq, hr]; simp
    have hqV : q ≤ V := by rw [hq]; exact Nat.le_trans (Nat.div_le_self _ _) hvV
    have hlq : (partsOf q).length < (partsOf v).length := by rw [hpp, ← hq]; simp
    have l1 : ps.length ≤ 9223372036854775806 := by omega
    have l2 : ps.length + 1 ≤ 9223372036854775807 := by omega
    have l3 : (ps.length + 1) * 4 ≤ 140737488355328 := by omega
    rcases hso with ⟨rfl, k4, rfl⟩ | ⟨y, rfl, k4, hne⟩
    · simp [-frame, -getElem?_pos, -step_some, stepN, k3, k4, hlen0, hdv']
      exact ih _ _ (by omega) ⟨q, [] ++ [r], _, _, rfl, by simp, rfl, hqV, hps', .inr ⟨lp r, by simp [lim, lp], by simp, by simp⟩⟩
    · simp [-frame, -getElem?_pos, -step_some, stepN, k3, k4, hlen0, hdv', l1, l2, l3]
      exact ih _ _ (by omega) ⟨q, ps ++ [r], _, _, rfl, by simp, rfl, hqV, hps', .inr ⟨lp r, by simp [lim, lp], by simp, by simp⟩⟩
end Go.Proofs.YtlhjljplfmmoaaaGreatDoor.Ev
namespace Go.Proofs.YtlhjljplfmmoaaaGreatDoor.Ev
open Go
set_option linter.unusedSimpArgs false
set_option linter.unusedVariables false
set_option maxRecDepth 10000
set_option maxHeartbeats 4000000
open Nb
theorem lim_nil : lim [] = [] := rfl
theorem get_le_val {l : List Nat} {j z : Nat} (h : l[j]? = some z) : B ^ j * z ≤ val l := by
  have h1 := val_take_succ h
  have hj : j < l.length := (List.getElem?_eq_some_iff.1 h).1
  have h2 := val_split l (j + 1) hj
  omega
theorem zero_above {l : List Nat} {j k z : Nat} (h : l[j]? = some z) (hv : val l < B ^ k) (hk : k ≤ j) : z = 0 := by
  have h1 := get_le_val h
  have h2 : B ^ k ≤ B ^ j := Nat.pow_le_pow_right B_pos hk
  by_cases hz : z = 0
  · exact hz
  · have : B ^ j * 1 ≤ B ^ j * z := Nat.mul_le_mul_left _ (by omega)
    omega
theorem mul_col {L V0 Bi Bk p y c z q s Bik : Nat} (hB : Bik = Bi * Bk) (h : L + Bik * c = V0 + Bi * (p * y)) (hs : s = c + (p * q + z)) :
    L + Bik * (s % B) + Bik * B * (s / B) = V0 + Bi * (p * (y + Bk * q)) + Bik * z := by
  have h1 : Bik * (s % B) + Bik * B * (s / B) = Bik * s := by rw [Nat.mul_assoc, ← Nat.mul_add, Nat.mod_add_div]
  have h2 : Bik * s = Bik * c + Bik * (p * q) + Bik * z := by rw [hs, Nat.mul_add, Nat.mul_add]; omega
  have h3 : Bi * (p * (y + Bk * q)) = Bi * (p * y) + Bik * (p * q) := by
    rw [hB, Nat.mul_add, Nat.mul_add, Nat.mul_assoc Bi Bk]
    congr 2
    rw [← Nat.mul_assoc, ← Nat.mul_assoc, Nat.mul_comm p Bk]
  omega
theorem pq_lt {p q z c : Nat} (hp : p < B) (hq : q < B) (hz : z < B) (hc : c < B) : c + (p * q + z) < B * B ∧ p * q + z < B * B := by
  have h1 : p * q ≤ (B - 1) * (B - 1) := Nat.mul_le_mul (by omega) (by omega)
  have h2 : (B - 1) * (B - 1) + (B - 1) + (B - 1) + 1 = B * B := by decide
  omega
theorem mul_n (n : Nat) (a b : List Nat) (ha : LB a) (hb : LB b) (hla : a.length ≤ 35184372088832) (hlb : b.length ≤ 35184372088832) (hn : a.length + b.length ≤ n) :
    (ev Tryz.prog tab (n + 2)).callA 86 [.sl (lim a), .sl (lim b)] = some [.sl (lim (ofN (val a * val b)))] := by
  have hB : B = 4294967296 := rfl
  have ta := trim_n n a ha (by omega) (by omega)
  have tb := trim_n n b hb (by omega) (by omega)
  have hXa := len_ofN_le ha
  have hYb := len_ofN_le hb
  have hvX := val_ofN (val a)
  have hvY := val_ofN (val b)
  rw [← hvX, ← hvY]
  obtain ⟨X, hX⟩ : ∃ X, X = ofN (val a) := ⟨_, rfl⟩
  obtain ⟨Y, hY⟩ : ∃ Y, Y = ofN (val b) := ⟨_, rfl⟩
  have hbX : LB X := by rw [hX]; exact LB_ofN _
  have hbY : LB Y := by rw [hY]; exact LB_ofN _
  rw [← hX] at ta hXa ⊢
  rw [← hY] at tb hYb ⊢
  clear hvX hvY hX hY
  rw [callA_fn rfl Tryz.func86 rfl rfl rfl]
  by_cases hX0 : X = []
  · subst hX0
    simp [-frame, -getElem?_pos, -step_some, stepN, Tryz.f86, ta, tb, val, ofN_zero, lim_nil]
  by_cases hY0 : Y = []
  · subst hY0
    have hX0' : ¬ X.length = 0 := fun h => hX0 (List.eq_nil_of_length_eq_zero h)
    simp [-frame, -getElem?_pos, -step_some, stepN, Tryz.f86, ta, tb, val, ofN_zero, lim_nil, hX0, hX0']
  have hX0' : 0 < X.length := List.length_pos_iff.2 hX0
  have hY0' : 0 < Y.length := List.length_pos_iff.2 hY0
  have hX1 : ¬ (X.length : Int) = 0 := by omega
  have hY1 : ¬ (Y.length : Int) = 0 := by omega
  obtain ⟨M, hM⟩ : ∃ M, M = X.length + Y.length := ⟨_, rfl⟩
  have hwM : IntKind.i64.wrap ((X.length : Int) + (Y.length : Int)) = (M : Int) := by rw [wrap_i64 (by omega) (by omega)]; omega
  simp [-frame, -getElem?_pos, -step_some, stepN, -evMake, Tryz.f86, ta, tb, hX0, hY0, hX1, hY1]
  simp only [hwM]
  rw [evMake_nat (by omega) (by omega) (by omega)]
  simp [-frame, -getElem?_pos, -step_some, stepN, lim_zero]
  refine loop_rule (fun e st => ∃ (i : Nat) (l : List Nat) (A : List (Nat × TV)), st = { tm := frameOf 82 A, sus := [], so := [(30, .row 125 (lim l))] } ∧ look A 6 = .sl (lim Y) ∧ look A 7 = .row 30 0 M ∧ look A 31 = .sl (lim X) ∧ look A 32 = .val (.int .i64 X.length) ∧ look A 33 = .val (.int .i64 i) ∧ e = X.length - i ∧ i ≤ X.length ∧ LB l ∧ l.length = M ∧ val l = val (X.take i) * val Y) ?_ _ X.length _ (by omega)
    ⟨0, List.replicate M 0, _, rfl, by simp, by simp, by simp, by simp, by simp, rfl, by omega, LB_zero _, by simp, by simp [val, val_zero]⟩
  rintro e st m ⟨i, l, A, rfl, k6, k7, k31, k32, k33, rfl, hi, hbl, hll, hv⟩ ih
  by_cases hlt : i < X.length
  · obtain ⟨p, hp⟩ : ∃ p, X[i]? = some p := ⟨X[i], by simp⟩
    have hpB := hbX.get hp
    have hp' := lim_get hp
    have hw := wrap_succ hlt (by omega)
    have hd : decide ((i : Int) < X.length) = true := by simp [hlt]
    have hzi : l[i + Y.length]? = some 0 := by
      obtain ⟨z, hz⟩ : ∃ z, l[i + Y.length]? = some z := ⟨l[i + Y.length], by rw [List.getElem?_eq_getElem (by omega)]⟩
      rw [hz]
      congr 1
      refine zero_above (k := i + Y.length) hz ?_ (Nat.le_refl _)
      rw [hv, Nat.pow_add]
      exact Nat.mul_lt_mul_of_lt_of_le (val_take_lt hbX i) (Nat.le_of_lt (val_lt hbY)) (Bp _)
    simp [-frame, -getElem?_pos, -step_some, stepN, k6, k7, k31, k32, k33, hd, hlt, hp', lp]
    refine loop_rule (fun e st => ∃ (k c : Nat) (l2 : List Nat) (A : List (Nat × TV)), st = { tm := frameOf 82 A, sus := [], so := [(30, .row 125 (lim l2))] } ∧ look A 6 = .sl (lim Y) ∧ look A 7 = .row 30 0 M ∧ look A 31 = .sl (lim X) ∧ look A 32 = .val (.int .i64 X.length) ∧ look A 33 = .val (.int .i64 i) ∧ look A 8 = .val (.int .i64 i) ∧ look A 9 = .val (.int .u32 p) ∧ look A 10 = .val (.int .u64 c) ∧ look A 38 = .sl (lim Y) ∧ look A 39 = .val (.int .i64 Y.length) ∧ look A 40 = .val (.int .i64 k) ∧ e = Y.length - k ∧ k ≤ Y.length ∧ LB l2 ∧ l2.length = M ∧ l2[i + Y.length]? = some 0 ∧ c < B ∧ val l2 + B ^ (i + k) * c = val (X.take i) * val Y + B ^ i * (p * val (Y.take k))) ?_ _ Y.length _ (by omega)
      ⟨0, 0, l, _, rfl, by simp [k6], by simp [k7], by simp [k31], by simp [k32], by simp [k33], by simp, by simp, by simp, by simp, by simp, by simp, rfl, by omega, hbl, hll, hzi, B_pos, by simp [val, hv]⟩
    clear k6 k7 k31 k32 k33 hbl hll hv hzi
    rintro e st m2 ⟨k, c, l2, A, rfl, k6, k7, k31, k32, k33, k8, k9, k10, k38, k39, k40, rfl, hk, hbl, hll, hzi, hc, hv⟩ ih2
    by_cases hlt2 : k < Y.length
    · obtain ⟨q, hq⟩ : ∃ q, Y[k]? = some q := ⟨Y[k], by simp⟩
      have hqB := hbY.get hq
      have hq' := lim_get hq
      have hw2 := wrap_succ hlt2 (by omega)
      have hd2 : decide ((k : Int) < Y.length) = true := by simp [hlt2]
      obtain ⟨j, hj⟩ : ∃ j, j = i + k := ⟨_, rfl⟩
      have hjM : j < M := by omega
      have hwj : IntKind.i64.wrap ((i : Int) + (k : Int)) = (j : Int) := by rw [wrap_i64 (by omega) (by omega)]; omega
      obtain ⟨z, hz⟩ : ∃ z, l2[j]? = some z := ⟨l2[j], by rw [List.getElem?_eq_getElem (by omega)]⟩
      have hzB := hbl.get hz
      have hz' := lim_get hz
      obtain ⟨s, hs⟩ : ∃ s, s = c + (p * q + z) := ⟨_, rfl⟩
      have ⟨hsB, hpqB⟩ := pq_lt hpB hqB hzB hc
      rw [← hs, BB_eq] at hsB
      rw [BB_eq] at hpqB
      have e1 := w64 (show p < 18446744073709551616 by omega)
      have e2 := w64 (show q < 18446744073709551616 by omega)
      have e3 := w64 (show z < 18446744073709551616 by omega)
      obtain ⟨pq, hpq⟩ : ∃ pq, pq = p * q := ⟨_, rfl⟩
      rw [← hpq] at hs hpqB
      have e4 : IntKind.u64.wrap ((p : Int) * (q : Int)) = (pq : Int) := by have := w64 (show pq < 18446744073709551616 by omega); rw [← this, hpq]; simp
      obtain ⟨pz, hpz⟩ : ∃ pz, pz = pq + z := ⟨_, rfl⟩
      have e5 : IntKind.u64.wrap ((pq : Int) + (z : Int)) = (pz : Int) := by have := w64 (show pz < 18446744073709551616 by omega); rw [← this, hpz]; simp
      have e6 : IntKind.u64.wrap ((c : Int) + (pz : Int)) = (s : Int) := by have := w64 hsB; rw [← this, hs, hpz]; simp
      obtain ⟨lo, hlow⟩ : ∃ lo, s % B = lo := ⟨_, rfl⟩
      obtain ⟨hi', hhigh⟩ : ∃ hi, s / B = hi := ⟨_, rfl⟩
      have hloB : lo < B := by rw [← hlow]; exact Nat.mod_lt _ B_pos
      have hhiB : hi' < B := by rw [← hhigh]; exact div_lt_B (by rw [BB_eq]; exact hsB)
      have e7 := w64 (show lo < 18446744073709551616 by omega)
      have e8 := w32 hloB
      have e9 := lowE hlow
      have e10 := highE hhigh
      have hjl : j < l2.length := by omega
      have hv' : val (l2.set j lo) + B ^ (i + (k + 1)) * hi' = val (X.take i) * val Y + B ^ i * (p * val (Y.take (k + 1))) := by
        have h1 := val_set lo hz
        have hs' : s = c + (p * q + z) := by rw [hs, hpq]
        have h2 := mul_col (Bi := B ^ i) (Bk := B ^ k) (Bik := B ^ j) (by rw [hj, Nat.pow_add]) (by rw [hj]; exact hv) hs'
        rw [hlow, hhigh, ← val_take_succ hq] at h2
        rw [← Nat.add_assoc, ← hj, Nat.pow_succ]
        omega
      have hzi' : (l2.set j lo)[i + Y.length]? = some 0 := by rw [List.getElem?_set_ne (by omega)]; exact hzi
      have hset : (lim l2).set j (.val (.int .u32 (lo : Int))) = lim (l2.set j lo) := lim_set l2 j lo
      simp [-frame, -getElem?_pos, -step_some, stepN, k6, k7, k8, k9, k10, k31, k32, k33, k38, k39, k40, hd2, hlt2, hq', hz', hwj, hjl, hjM, hll, hw2, lp, e1, e2, e3, e4, e5, e6, e7, e8, e9, e10, rowO, mkPV, putPV]
      exact ih2 _ _ (by omega) ⟨k + 1, hi', l2.set j lo, _, by rw [← hset], by simp [k6], by simp [k7], by simp [k31], by simp [k32], by simp [k33], by simp [k8], by simp [k9], by simp, by simp [k38], by simp [k39], by simp, rfl, by omega, hbl.set hloB j, by simp [hll], hzi', hhiB, hv'⟩
    · obtain rfl : k = Y.length := by omega
      have hd2 : decide ((Y.length : Int) < Y.length) = false := by simp
      obtain ⟨j, hj⟩ : ∃ j, j = i + Y.length := ⟨_, rfl⟩
      rw [← hj] at hzi hv
      rw [List.take_length] at hv
      have hjM : j < M := by omega
      have hjl : j < l2.length := by omega
      have hwj : IntKind.i64.wrap ((i : Int) + (Y.length : Int)) = (j : Int) := by rw [wrap_i64 (by omega) (by omega)]; omega
      have hz' := lim_get hzi
      have e8 := w32 hc
      have hv' : val (l2.set j c) = val (X.take (i + 1)) * val Y := by
        have h1 := val_set c hzi
        rw [Nat.mul_zero, Nat.add_zero] at h1
        rw [h1, hv, val_take_succ hp, Nat.add_mul, Nat.mul_assoc]
      have hset : (lim l2).set j (.val (.int .u32 (c : Int))) = lim (l2.set j c) := lim_set l2 j c
      simp [-frame, -getElem?_pos, -step_some, stepN, k6, k7, k8, k9, k10, k31, k32, k33, k38, k39, k40, hd2, hz', hwj, hjl, hjM, hll, hw, lp, e8, rowO, mkPV, putPV]
      exact ih _ _ (by omega) ⟨i + 1, l2.set j c, _, by rw [← hset], by simp [k6], by simp [k7], by simp [k31], by simp [k32], by simp, rfl, by omega, hbl.set hc j, by simp [hll], hv'⟩
  · obtain rfl : i = X.length := by omega
    rw [List.take_length] at hv
    have hd : decide ((X.length : Int) < X.length) = false := by simp
    have ht := trim_n n l hbl (by omega) (by omega)
    rw [hv] at ht
    have htk : List.take M (lim l) = lim l := List.take_of_length_le (by simp; omega)
    simp [-frame, -getElem?_pos, -step_some, stepN, k6, k7, k31, k32, k33, hd, htk, hll, ht]
end Go.Proofs.YtlhjljplfmmoaaaGreatDoor.Ev
namespace Go.Proofs.YtlhjljplfmmoaaaGreatDoor.Ev
open Go
set_option linter.unusedSimpArgs false
set_option linter.unusedVariables false
set_option maxRecDepth 10000
set_option maxHeartbeats 4000000
open Nb
def limb (l : List Nat) (i : Nat) : Nat := (l[i]?).getD 0
theorem take_limb (l : List Nat) (i : Nat) : val (l.take (i + 1)) = val (l.take i) + B ^ i * limb l i := by
  unfold limb
  cases h : l[i]? with
  | none =>
    have : l.length ≤ i := by simpa using h
    rw [List.take_of_length_le (by omega), List.take_of_length_le this]; simp
  | some x => exact val_take_succ h
theorem add_col {L Bi c x y s : Nat} {P Q : Nat} (h : L + Bi * c = P + Q) (hs : s = c + x + y) : L + Bi * (s % B) + Bi * B * (s / B) = (P + Bi * x) + (Q + Bi * y) := by
  have h1 : Bi * (s % B) + Bi * B * (s / B) = Bi * s := by rw [Nat.mul_assoc, ← Nat.mul_add, Nat.mod_add_div]
  have h2 : Bi * s = Bi * c + Bi * x + Bi * y := by rw [hs, Nat.mul_add, Nat.mul_add]
  omega
theorem add_fin {X Y out : List Nat} {c : Nat} (hX : X = ofN (val X)) (hb : LB out) (hl : out.length = X.length) (hc : c < B) (hv : val out + B ^ X.length * c = val X + val Y) (hYX : Y.length ≤ X.length) :
    (if 0 < c then out ++ [c] else out) = ofN (val X + val Y) := by
  split
  · rename_i h0
    have h1 : val (out ++ [c]) = val X + val Y := by rw [val_snoc, hl]; exact hv
    rw [← h1]
    apply eq_ofN (hb.snoc hc)
    right
    rw [h1, ← hv]
    simp only [List.length_append, List.length_cons, List.length_nil, Nat.add_sub_cancel, hl]
    have : B ^ X.length * 1 ≤ B ^ X.length * c := Nat.mul_le_mul_left _ h0
    omega
  · rename_i h0
    obtain rfl : c = 0 := by omega
    have h1 : val out = val X + val Y := by simpa using hv
    rw [← h1]
    apply eq_ofN hb
    by_cases hx : val X = 0
    · left
      rw [hx, ofN_zero] at hX
      apply List.eq_nil_of_length_eq_zero
      rw [hl, hX]; rfl
    · right
      rw [h1, hl]
      have := ofN_low hx
      rw [← hX] at this
      omega
theorem add_n (n : Nat) (a b : List Nat) (ha : LB a) (hb : LB b) (hla : a.length ≤ 35184372088830) (hlb : b.length ≤ 35184372088830) (hn : a.length + b.length ≤ n) :
    (ev Tryz.prog tab (n + 2)).callA 85 [.sl (lim a), .sl (lim b)] = some [.sl (lim (ofN (val a + val b)))] := by
  have hB : B = 4294967296 := rfl
  have ta := trim_n n a ha (by omega) (by omega)
  have tb := trim_n n b hb (by omega) (by omega)
  have hXa := len_ofN_le ha
  have hYb := len_ofN_le hb
  have hvX := val_ofN (val a)
  have hvY := val_ofN (val b)
  have hoX : ofN (val a) = ofN (val (ofN (val a))) := by rw [hvX]
  have hoY : ofN (val b) = ofN (val (ofN (val b))) := by rw [hvY]
  rw [← hvX, ← hvY]
  obtain ⟨X, hX⟩ : ∃ X, X = ofN (val a) := ⟨_, rfl⟩
  obtain ⟨Y, hY⟩ : ∃ Y, Y = ofN (val b) := ⟨_, rfl⟩
  have hbX : LB X := by rw [hX]; exact LB_ofN _
  have hbY : LB Y := by rw [hY]; exact LB_ofN _
  rw [← hX] at ta hXa hoX ⊢
  rw [← hY] at tb hYb hoY ⊢
  clear hvX hvY hX hY
  rw [callA_fn rfl Tryz.func85 rfl rfl rfl]
  -- the longer number L, the shorter one R
  obtain ⟨L, R, hbL, hbR, hoL, hLR, hsum, hLl⟩ : ∃ L R : List Nat, LB L ∧ LB R ∧ L = ofN (val L) ∧ R.length ≤ L.length ∧ ((L = X ∧ R = Y ∧ ¬ X.length < Y.length) ∨ (L = Y ∧ R = X ∧ X.length < Y.length)) ∧ L.length ≤ 35184372088830 ∧ L.length ≤ n := by
    by_cases h : X.length < Y.length
    · exact ⟨Y, X, hbY, hbX, hoY, by omega, .inr ⟨rfl, rfl, h⟩, by omega, by omega⟩
    · exact ⟨X, Y, hbX, hbY, hoX, by omega, .inl ⟨rfl, rfl, h⟩, by omega, by omega⟩
  have hV : val X + val Y = val L + val R := by
    rcases hsum with ⟨rfl, rfl, _⟩ | ⟨rfl, rfl, _⟩
    · rfl
    · exact Nat.add_comm _ _
  rw [hV]
  have hwL : IntKind.i64.wrap ((L.length : Int) + 1) = (L.length : Int) + 1 := by rw [wrap_i64 (by omega) (by omega)]
  rcases hsum with ⟨rfl, rfl, h⟩ | ⟨rfl, rfl, h⟩
  all_goals
    simp [-frame, -getElem?_pos, -step_some, stepN, -evMake, Tryz.f85, ta, tb, h]
    simp only [hwL]
    rw [evMake_nat (by omega) (by omega) (by omega)]
    simp [-frame, -getElem?_pos, -step_some, stepN]
    clear ta tb h
    refine loop_rule (fun d st => ∃ (i c : Nat) (out : List Nat) (so : Store) (A : List (Nat × TV)), st = { tm := frameOf 65 A, sus := [], so := so } ∧ look A 6 = .sl (lim R) ∧ look A 8 = .val (.int .u64 c) ∧ look A 26 = .sl (lim L) ∧ look A 27 = .val (.int .i64 L.length) ∧ look A 28 = .val (.int .i64 i) ∧ d = L.length - i ∧ i ≤ L.length ∧ LB out ∧ out.length = i ∧ c ≤ 1 ∧ val out + B ^ i * c = val (L.take i) + val (R.take i) ∧
      ((so = [(25, .row 125 [])] ∧ look A 7 = .row 25 0 0 ∧ out = []) ∨ ∃ y, so = [(52, .row 125 [y]), (53, .row 125 (lim out))] ∧ look A 7 = .row 53 0 out.length)) ?_ _ L.length _ (by omega) ⟨0, 0, [], _, _, rfl, by simp, by simp, by simp, by simp, by simp, rfl, by omega, LB_nil, rfl, by omega, by simp [val], .inl ⟨rfl, by simp, rfl⟩⟩
    rintro d st m ⟨i, c, out, so, A, rfl, k6, k8, k26, k27, k28, rfl, hi, hbo, hlo, hc, hv, hso⟩ ih
    by_cases hlt : i < L.length
    · obtain ⟨x, hx⟩ : ∃ x, L[i]? = some x := ⟨L[i], by simp⟩
      have hxB := hbL.get hx
      have hx' := lim_get hx
      have hw := wrap_succ hlt (by omega)
      have hd : decide ((i : Int) < L.length) = true := by simp [hlt]
      have hlx : limb L i = x := by unfold limb; rw [hx]; rfl
      obtain ⟨s1, hs1⟩ : ∃ s1, s1 = c + x := ⟨_, rfl⟩
      have e1 := w64 (show x < 18446744073709551616 by omega)
      have e2 : IntKind.u64.wrap ((c : Int) + (x : Int)) = (s1 : Int) := by have := w64 (show s1 < 18446744073709551616 by omega); rw [← this, hs1]; simp
      obtain ⟨y, hy⟩ : ∃ y, y = limb R i := ⟨_, rfl⟩
      have hyB : y < B := by
        rw [hy]; unfold limb
        cases h : R[i]? with
        | none => exact B_pos
        | some z => exact hbR.get h
      obtain ⟨s, hs⟩ : ∃ s, s = s1 + y := ⟨_, rfl⟩
      have e3 := w64 (show y < 18446744073709551616 by omega)
      have e4 : IntKind.u64.wrap ((s1 : Int) + (y : Int)) = (s : Int) := by have := w64 (show s < 18446744073709551616 by omega); rw [← this, hs]; simp
      obtain ⟨lo, hlow⟩ : ∃ lo, s % B = lo := ⟨_, rfl⟩
      obtain ⟨hi', hhigh⟩ : ∃ hi, s / B = hi := ⟨_, rfl⟩
      have hloB : lo < B := by rw [← hlow]; exact Nat.mod_lt _ B_pos
      have hhi1 : hi' ≤ 1 := by rw [← hhigh]; exact Nat.lt_succ_iff.1 (Nat.div_lt_of_lt_mul (by omega))
      have e7 := w64 (show lo < 18446744073709551616 by omega)
      have e8 := w32 hloB
      have e9 := lowE hlow
      have e10 := highE hhigh
      have hv' : val (out ++ [lo]) + B ^ (i + 1) * hi' = val (L.take (i + 1)) + val (R.take (i + 1)) := by
        rw [val_snoc, hlo, take_limb, take_limb, hlx, ← hy, ← hlow, ← hhigh, Nat.pow_succ]
        exact add_col hv (by rw [hs, hs1])
      have l1 : out.length ≤ 9223372036854775806 := by omega
      have l2 : out.length + 1 ≤ 9223372036854775807 := by omega
      have l3 : (out.length + 1) * 4 ≤ 140737488355328 := by omega
      by_cases hR : i < R.length
      · have hRi : (i : Int) < (R.length : Int) := by omega
        have hyR : (lim R)[i]? = some (lp y) := by
          rw [hy]; unfold limb
          rw [List.getElem?_eq_getElem hR]
          exact lim_get (List.getElem?_eq_getElem hR)
        rcases hso with ⟨rfl, k7, rfl⟩ | ⟨y', rfl, k7⟩
        · simp [-frame, -getElem?_pos, -step_some, stepN, k6, k7, k8, k26, k27, k28, hd, hlt, hw, hx', lp, hR, hRi, hyR, e1, e2, e3, e4, e7, e8, e9, e10]
          exact ih _ _ (by omega) ⟨i + 1, hi', [] ++ [lo], _, _, rfl, by simp [k6], by simp, by simp [k26], by simp [k27], by simp, rfl, by omega, hbo.snoc hloB, by simp at hlo; simp [← hlo], hhi1, hv', .inr ⟨lp lo, by simp [lim, lp], by simp⟩⟩
        · simp [-frame, -getElem?_pos, -step_some, stepN, k6, k7, k8, k26, k27, k28, hd, hlt, hw, hx', lp, hR, hRi, hyR, e1, e2, e3, e4, e7, e8, e9, e10, l1, l2, l3]
          exact ih _ _ (by omega) ⟨i + 1, hi', out ++ [lo], _, _, rfl, by simp [k6], by simp, by simp [k26], by simp [k27], by simp, rfl, by omega, hbo.snoc hloB, by simp [hlo], hhi1, hv', .inr ⟨lp lo, by simp [lim, lp], by simp⟩⟩
      · have hRi : ¬ (i : Int) < (R.length : Int) := by omega
        have hy0 : y = 0 := by rw [hy]; unfold limb; rw [List.getElem?_eq_none (by omega)]; rfl
        have hss : s1 = s := by omega
        rw [hss] at e2
        rcases hso with ⟨rfl, k7, rfl⟩ | ⟨y', rfl, k7⟩
        · simp [-frame, -getElem?_pos, -step_some, stepN, k6, k7, k8, k26, k27, k28, hd, hlt, hw, hx', lp, hR, hRi, e1, e2, e7, e8, e9, e10]
          exact ih _ _ (by omega) ⟨i + 1, hi', [] ++ [lo], _, _, rfl, by simp [k6], by simp, by simp [k26], by simp [k27], by simp, rfl, by omega, hbo.snoc hloB, by simp at hlo; simp [← hlo], hhi1, hv', .inr ⟨lp lo, by simp [lim, lp], by simp⟩⟩
        · simp [-frame, -getElem?_pos, -step_some, stepN, k6, k7, k8, k26, k27, k28, hd, hlt, hw, hx', lp, hR, hRi, e1, e2, e7, e8, e9, e10, l1, l2, l3]
          exact ih _ _ (by omega) ⟨i + 1, hi', out ++ [lo], _, _, rfl, by simp [k6], by simp, by simp [k26], by simp [k27], by simp, rfl, by omega, hbo.snoc hloB, by simp [hlo], hhi1, hv', .inr ⟨lp lo, by simp [lim, lp], by simp⟩⟩
    · obtain rfl : i = L.length := by omega
      rw [List.take_length, List.take_of_length_le hLR] at hv
      have hcB : c < B := by omega
      have hf := add_fin hoL hbo hlo hcB hv hLR
      have hd : decide ((L.length : Int) < L.length) = false := by simp
      have e8 := w32 hcB
      have l1 : out.length ≤ 9223372036854775806 := by omega
      have l2 : out.length + 1 ≤ 9223372036854775807 := by omega
      have l3 : (out.length + 1) * 4 ≤ 140737488355328 := by omega
      by_cases h0 : 0 < c
      · rw [if_pos h0] at hf
        rcases hso with ⟨rfl, k7, rfl⟩ | ⟨y', rfl, k7⟩
        · simp [-frame, -getElem?_pos, -step_some, stepN, k6, k7, k8, k26, k27, k28, hd, h0, e8, ← hf]
          simp [lim, lp]
        · simp [-frame, -getElem?_pos, -step_some, stepN, k6, k7, k8, k26, k27, k28, hd, h0, e8, l1, l2, l3, ← hf]
          simp [lim, lp, List.take_of_length_le]
      · rw [if_neg h0] at hf
        rcases hso with ⟨rfl, k7, rfl⟩ | ⟨y', rfl, k7⟩
        · simp [-frame, -getElem?_pos, -step_some, stepN, k6, k7, k8, k26, k27, k28, hd, h0, e8, ← hf]
          simp [lim, lp]
        · simp [-frame, -getElem?_pos, -step_some, stepN, k6, k7, k8, k26, k27, k28, hd, h0, e8, l1, l2, l3, ← hf]
end Go.Proofs.YtlhjljplfmmoaaaGreatDoor.Ev
namespace Go.Proofs.YtlhjljplfmmoaaaGreatDoor.Ev
open Go
set_option linter.unusedSimpArgs false
set_option linter.unusedVariables false
set_option maxRecDepth 10000
set_option maxHeartbeats 4000000
open Nb
theorem pow_len {a : List Nat} (h : LB a) (u : Nat) : (ofN (val a ^ u)).length ≤ a.length * u + 1 := by
  apply length_ofN_le.2
  have h1 : val a ^ u ≤ (B ^ a.length) ^ u := Nat.pow_le_pow_left (Nat.le_of_lt (val_lt h)) u
  rw [← Nat.pow_mul] at h1
  have h2 : B ^ (a.length * u) < B ^ (a.length * u + 1) := Nat.pow_lt_pow_right (by decide) (by omega)
  omega
theorem pow_n (n : Nat) (a : List Nat) (e : Nat) (ha : LB a) (hla : a.length ≤ 1000000) (he : e ≤ 512) (hn : 1024 * a.length + 600 ≤ n) :
    (ev Tryz.prog tab (n + 3)).callA 84 [.sl (lim a), intP e] = some [.sl (lim (ofN (val a ^ e))), .val (.bool true)] := by
  have ho := of_n n 1 (by decide) (by omega)
  have ho' : (ev Tryz.prog tab (n + 2)).callA 75 [.val (.int .u64 1)] = some [.sl (lim (ofN 1))] := ho
  have hno := norm_n n a ha (by omega) (by omega)
  have hq : ∀ z : Int, intP z = .val (.int .i64 z) := fun _ => rfl
  have h0 : ¬ (e : Int) < 0 := by omega
  have h1 : ¬ (512 : Int) < (e : Int) := by omega
  obtain ⟨V, hV⟩ : ∃ V, V = val a := ⟨_, rfl⟩
  have hlen : ∀ u, u ≤ 512 → (ofN (V ^ u)).length ≤ 512 * a.length + 1 := fun u hu => by
    rw [hV]
    have := pow_len ha u
    have : a.length * u ≤ a.length * 512 := Nat.mul_le_mul_left _ hu
    omega
  rw [← hV] at hno ⊢
  rw [callA_fn rfl Tryz.func84 rfl rfl rfl]
  simp [-frame, -getElem?_pos, -step_some, stepN, Tryz.f84, hq, h0, h1, ho', hno]
  refine loop_rule (fun d st => ∃ (k u w : Nat) (A : List (Nat × TV)), st = { tm := frameOf 33 A, sus := [], so := [] } ∧ look A 6 = .sl (lim (ofN (V ^ u))) ∧ look A 7 = .sl (lim (ofN (V ^ w))) ∧ look A 8 = .val (.int .i64 k) ∧ k = d ∧ k ≤ e ∧ u + w * k = e) ?_ _ e _ (by omega) ⟨e, 0, 1, _, rfl, by simp, by simp, by simp, rfl, Nat.le_refl _, by omega⟩
  rintro d st m ⟨k, u, w, A, rfl, k6, k7, k8, rfl, hke0, hs⟩ ih
  by_cases hk : k = 0
  · subst hk
    obtain rfl : u = e := by omega
    simp [-frame, -getElem?_pos, -step_some, stepN, k6, k7, k8]
  · have hk' : 0 < k := by omega
    have hw1 : w * 1 ≤ w * k := Nat.mul_le_mul_left _ hk'
    have hu := hlen u (by omega)
    have hwl := hlen w (by omega)
    have hdm := Nat.div_add_mod k 2
    obtain ⟨k2, hk2⟩ : ∃ k2, k2 = k / 2 := ⟨_, rfl⟩
    have e1 : (k : Int).tdiv 2 = (k2 : Int) := by have := quoE 2 hk2.symm; simpa using this
    have hk2le : k2 ≤ k := by rw [hk2]; exact Nat.div_le_self _ _
    have e2 : IntKind.i64.wrap (k2 : Int) = (k2 : Int) := wrap_i64 (by omega) (by omega)
    have hm2 := mul_n n (ofN (V ^ w)) (ofN (V ^ w)) (LB_ofN _) (LB_ofN _) (by omega) (by omega) (by omega)
    rw [val_ofN, ← Nat.pow_add] at hm2
    rw [← hk2] at hdm
    have hwk : (w + w) * k2 = w * (2 * k2) := by rw [Nat.mul_comm 2 k2, ← Nat.mul_assoc, Nat.mul_two, Nat.add_mul]
    by_cases hr : k % 2 = 1
    · have e3 : (k : Int).tmod 2 = 1 := by have := remE 2 hr; simpa using this
      have hm1 := mul_n n (ofN (V ^ u)) (ofN (V ^ w)) (LB_ofN _) (LB_ofN _) (by omega) (by omega) (by omega)
      rw [val_ofN, val_ofN, ← Nat.pow_add] at hm1
      simp [-frame, -getElem?_pos, -step_some, stepN, k6, k7, k8, hk', e1, e2, e3, hm1, hm2]
      exact ih _ _ (by omega) ⟨k2, u + w, w + w, _, rfl, by simp, by simp, by simp, rfl, by omega, by
        rw [← hs, hwk, show k = 2 * k2 + 1 by omega, Nat.mul_add]; omega⟩
    · have e3 : (k : Int).tmod 2 = 0 := by have := remE 2 (show k % 2 = 0 by omega); simpa using this
      simp [-frame, -getElem?_pos, -step_some, stepN, k6, k7, k8, hk', e1, e2, e3, hm2]
      exact ih _ _ (by omega) ⟨k2, u, w + w, _, rfl, by simp [k6], by simp, by simp, rfl, by omega, by
        rw [← hs, hwk, show k = 2 * k2 by omega]⟩
theorem bitLen_pos {x : Nat} (h : x ≠ 0) : 0 < Lib.bitLen x := by
  unfold Lib.bitLen Lib.bitLenAux
  rw [if_neg h]; omega
theorem bitAux_le : ∀ f x, Lib.bitLenAux f x ≤ f
  | 0, x => Nat.le_refl _
  | f + 1, x => by
    unfold Lib.bitLenAux
    split
    · omega
    · have := bitAux_le f (x / 2); omega
theorem len32_g (n x : Nat) (h : x < B) : (ev Tryz.prog tab (n + 1)).callA 127 [.val (.int .u32 x)] = some [.val (.int .i64 (Lib.bitLen x))] := by
  rw [callG n (g := gLen32) (by kernel_rfl)]
  show (if x ≤ 4294967295 then some [PV.val (.int .i64 (Lib.bitLen x))] else none) = _
  rw [if_pos (by unfold B at h; omega)]
theorem bits_n (n : Nat) (a : List Nat) (ha : LB a) (hla : a.length ≤ 35184372088832) (hn : a.length ≤ n) :
    ∃ k : Nat, (ev Tryz.prog tab (n + 2)).callA 103 [.sl (lim a)] = some [intP k] ∧ (k = 0 ↔ val a = 0) := by
  have ta := trim_n n a ha (by omega) hn
  have hXa := len_ofN_le ha
  have hq : ∀ z : Int, intP z = .val (.int .i64 z) := fun _ => rfl
  by_cases h0 : val a = 0
  · refine ⟨0, ?_, by simp [h0]⟩
    rw [h0, ofN_zero, lim_nil] at ta
    rw [callA_fn rfl Tryz.func103 rfl rfl rfl]
    simp [-frame, -getElem?_pos, -step_some, stepN, Tryz.f103, ta, hq]
  · obtain ⟨X, hX⟩ : ∃ X, X = ofN (val a) := ⟨_, rfl⟩
    have hX0 : X ≠ [] := by rw [hX]; exact fun h => h0 (ofN_eq_nil.1 h)
    have hXl : 0 < X.length := List.length_pos_iff.2 hX0
    have hX1 : ¬ (X.length : Int) = 0 := by omega
    have hX2 : ¬ X.length = 0 := by omega
    have hbX : LB X := by rw [hX]; exact LB_ofN _
    obtain ⟨x, hx⟩ : ∃ x, X[X.length - 1]? = some x := ⟨X[X.length - 1], by simp⟩
    have hx0 : x ≠ 0 := by rw [hX] at hx; exact ofN_top hx
    have hxB := hbX.get hx
    have hx' := lim_get hx
    rw [← hX] at ta hXa
    obtain ⟨j, hj⟩ : ∃ j, j = X.length - 1 := ⟨_, rfl⟩
    rw [← hj] at hx'
    have e1 : IntKind.i64.wrap ((X.length : Int) - 1) = (j : Int) := by rw [wrap_i64 (by omega) (by omega)]; omega
    have e2 : IntKind.i64.wrap (32 * (j : Int)) = 32 * (j : Int) := wrap_i64 (by omega) (by omega)
    have hjl : j < X.length := by omega
    have hL := len32_g n x hxB
    obtain ⟨b, hb⟩ : ∃ b, b = Lib.bitLen x := ⟨_, rfl⟩
    have hb0 : 0 < b := by rw [hb]; exact bitLen_pos hx0
    have hb1 : b ≤ 64 := by rw [hb]; exact bitAux_le 64 x
    rw [← hb] at hL
    obtain ⟨k, hk⟩ : ∃ k, k = 32 * j + b := ⟨_, rfl⟩
    have e3 : IntKind.i64.wrap (32 * (j : Int) + (b : Int)) = (k : Int) := by rw [wrap_i64 (by omega) (by omega)]; omega
    refine ⟨k, ?_, by omega⟩
    rw [callA_fn rfl Tryz.func103 rfl rfl rfl]
    simp [-frame, -getElem?_pos, -step_some, stepN, Tryz.f103, ta, hX0, hX1, hX2]
    simp only [e1]
    simp [-frame, -getElem?_pos, -step_some, stepN, e2, hjl, hx', lp, hL, e3, hq]
end Go.Proofs.YtlhjljplfmmoaaaGreatDoor.Ev
