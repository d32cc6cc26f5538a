/- strings.Split; keying.list: what they compute. -/
import Derived.Test.YtlhjljplfmmoaaaGreatDoorND
namespace Go.Proofs.YtlhjljplfmmoaaaGreatDoor.Ev
open Go
set_option linter.unusedSimpArgs false
set_option linter.unusedVariables false
set_option maxRecDepth 10000
set_option maxHeartbeats 4000000
open Nb
def splitL (c : UInt8) : List UInt8 → List (List UInt8)
  | [] => [[]]
  | x :: t => if x == c then [] :: splitL c t else match splitL c t with
    | w :: ws => (x :: w) :: ws
    | [] => [[x]]
theorem split_ne (c : UInt8) : ∀ l, splitL c l ≠ []
  | [] => by simp [splitL]
  | x :: t => by
    unfold splitL
    split
    · simp
    · split <;> simp
theorem split_len (c : UInt8) : ∀ l, (splitL c l).length = countL c l + 1
  | [] => rfl
  | x :: t => by
    have ih := split_len c t
    unfold splitL countL
    by_cases h : (x == c) = true
    · rw [if_pos h, if_pos h, List.length_cons, ih]
    · rw [if_neg h, if_neg h]
      cases hs : splitL c t with
      | nil => exact absurd hs (split_ne c t)
      | cons w ws => rw [hs] at ih; simpa using ih
theorem splitL_hit {c x : UInt8} {t : List UInt8} (h : (x == c) = true) : splitL c (x :: t) = [] :: splitL c t := by
  conv => lhs; unfold splitL
  rw [if_pos h]
theorem splitL_miss {c x : UInt8} {t w : List UInt8} {ws : List (List UInt8)} (h : ¬ (x == c) = true) (hs : splitL c t = w :: ws) : splitL c (x :: t) = (x :: w) :: ws := by
  conv => lhs; unfold splitL
  rw [if_neg h, hs]
theorem cutL_hit {c x : UInt8} {t : List UInt8} (h : (x == c) = true) : cutL c (x :: t) = ([], t, true) := by
  conv => lhs; unfold cutL
  rw [if_pos h]
theorem cutL_miss {c x : UInt8} {t : List UInt8} (h : ¬ (x == c) = true) : cutL c (x :: t) = (x :: (cutL c t).1, (cutL c t).2.1, (cutL c t).2.2) := by
  conv => lhs; unfold cutL
  rw [if_neg h]
theorem split_cut (c : UInt8) : ∀ l, splitL c l = if (cutL c l).2.2 = true then (cutL c l).1 :: splitL c (cutL c l).2.1 else [l]
  | [] => rfl
  | x :: t => by
    have ih := split_cut c t
    by_cases h : (x == c) = true
    · rw [splitL_hit h, cutL_hit h]; simp
    · rw [cutL_miss h]
      simp only
      by_cases hb : (cutL c t).2.2 = true
      · rw [if_pos hb] at ih ⊢
        exact splitL_miss h ih
      · rw [if_neg hb] at ih ⊢
        exact splitL_miss h ih
theorem sizeT_str : sizeT Tryz.prog 9 = some 1 := by kernel_rfl
theorem bytesT_str : bytesT Tryz.prog 9 = some 16 := by kernel_rfl
theorem zeroT_str : zeroT Tryz.prog 9 = some (.val (.string ⟨#[]⟩)) := by kernel_rfl
theorem elemT_strs : elemT Tryz.prog 22 = some 9 := by kernel_rfl
theorem evMake_str {st : St} {key d : Nat} {n m : Int} (h1 : 0 ≤ n) (h2 : n ≤ m) (h3 : m ≤ 17592186044416) :
    evMake Tryz.prog st key d 22 (some (.val (.int .i64 n))) (some (.val (.int .i64 m))) = some ((st.new key (.row 9 (List.replicate n.toNat (strL [])))).put (some d) (.row key 0 n.toNat)) := by
  have hz : zeroPV Tryz.prog st.so 9 = some (strL []) := by unfold zeroPV; rw [zeroT_str]; rfl
  have hr : rowSize Tryz.prog 9 = some 1 := by unfold rowSize; rw [sizeT_str]; rfl
  unfold evMake
  simp only [elemT_strs, bytesT_str, hz, hr]
  have h4 : m * ((16 : Nat) : Int) ≤ 281474976710656 := by omega
  exact if_pos ⟨rfl, h1, h2, by omega, h4⟩
theorem count_l (n : Nat) (l : List UInt8) (c : UInt8) : (ev Tryz.prog tab (n + 2)).callA 145 [strL l, strP ⟨#[c]⟩] = some [intP (countL c l : Nat)] := by
  have hS : ∀ m, strL m = .val (.string ⟨m.toArray⟩) := fun _ => rfl
  have hq : ∀ z : Int, intP z = .val (.int .i64 z) := fun _ => rfl
  have hz : (⟨#[c]⟩ : ByteArray).size = 1 := rfl
  have h0 : (ByteArray.mk #[c])[0]? = some c := rfl
  have g : (ev Tryz.prog tab (n + 1)).callA 169 [.val (.string ⟨l.toArray⟩), .val (.int .u8 c.toNat)] = some [.val (.int .i64 (countL c l : Nat))] := by
    rw [callG n (g := gCount) (by kernel_rfl)]
    have : ((c.toNat : Int).toNat).toUInt8 = c := by simp
    show some [PV.val (.int .i64 (countL ((c.toNat : Int).toNat).toUInt8 (ByteArray.mk l.toArray).data.toList : Nat))] = _
    rw [this]
  rw [callA_fn rfl Tryz.func145 rfl rfl rfl]
  simp [-frame, -getElem?_pos, -step_some, stepN, Tryz.f145, hS, hq, strP, hz, h0, g]
theorem index_l (n : Nat) (l : List UInt8) (c : UInt8) : (ev Tryz.prog tab (n + 4)).callA 146 [strL l, strP ⟨#[c]⟩] = some [intP (indexL c l 0)] := by
  have hS : ∀ m, strL m = .val (.string ⟨m.toArray⟩) := fun _ => rfl
  have hq : ∀ z : Int, intP z = .val (.int .i64 z) := fun _ => rfl
  have g := index1_ev n ⟨l.toArray⟩ c l (by simp)
  simp only [strP, hq] at g
  rw [callA_fn rfl Tryz.func146 rfl rfl rfl]
  simp [-frame, -getElem?_pos, -step_some, stepN, Tryz.f146, hS, hq, strP, g]
theorem countL_le (c : UInt8) : ∀ l, countL c l ≤ l.length
  | [] => Nat.le_refl _
  | x :: t => by
    have := countL_le c t
    unfold countL
    simp only [List.length_cons]
    split <;> omega
def rowW (ws : List (List UInt8)) (i N : Nat) : List PV := (ws.take i).map strL ++ List.replicate (N - i) (strL [])
theorem rowW_len (ws : List (List UInt8)) (i : Nat) (h : i ≤ ws.length) : (rowW ws i ws.length).length = ws.length := by
  unfold rowW; rw [List.length_append, List.length_map, List.length_take, List.length_replicate]; omega
theorem rowW_get (ws : List (List UInt8)) (i : Nat) (h : i < ws.length) : (rowW ws i ws.length)[i]? = some (strL []) := by
  unfold rowW
  rw [List.getElem?_append_right (by simp; omega)]
  simp only [List.length_map, List.length_take, List.getElem?_replicate]
  rw [if_pos (by omega)]
theorem rowW_set (ws : List (List UInt8)) (i : Nat) (w : List UInt8) (h : ws[i]? = some w) : (rowW ws i ws.length).set i (strL w) = rowW ws (i + 1) ws.length := by
  have hi : i < ws.length := (List.getElem?_eq_some_iff.1 h).1
  unfold rowW
  rw [List.set_append_right _ _ (by simp; omega)]
  simp only [List.length_map, List.length_take]
  rw [show i - min i ws.length = 0 by omega, List.take_add_one, h, show ws.length - i = (ws.length - (i + 1)) + 1 by omega, List.replicate_succ]
  simp
theorem genSplit_l (n : Nat) (l : List UInt8) (c : UInt8) (hl : l.length ≤ 1000000000) (hn : l.length ≤ n) :
    (ev Tryz.prog tab (n + 5)).callA 122 [strL l, strP ⟨#[c]⟩, intP 0, intP (-1)] = some [.sl ((splitL c l).map strL)] := by
  have hS : ∀ m, strL m = .val (.string ⟨m.toArray⟩) := fun _ => rfl
  have hq : ∀ z : Int, intP z = .val (.int .i64 z) := fun _ => rfl
  have hz : (⟨#[c]⟩ : ByteArray).size = 1 := rfl
  have hl1 : (ByteArray.mk #[c]).toList = [c] := ba_list [c]
  have hc := count_l (n + 2) l c
  have hcl : countL c l ≤ l.length := by exact countL_le c l
  obtain ⟨ws, hws⟩ : ∃ ws, ws = splitL c l := ⟨_, rfl⟩
  have hN := split_len c l
  rw [← hws] at hN
  obtain ⟨N, hNe⟩ : ∃ N, N = ws.length := ⟨_, rfl⟩
  obtain ⟨k, hk⟩ : ∃ k, k = countL c l := ⟨_, rfl⟩
  rw [← hk] at hc hcl hN
  simp only [hS, hq, strP] at hc
  have w1 : IntKind.i64.wrap ((k : Int) + 1) = (N : Int) := by rw [wrap_i64 (by omega) (by omega)]; omega
  have w2 : IntKind.i64.wrap ((l.length : Int) + 1) = (l.length : Int) + 1 := wrap_i64 (by omega) (by omega)
  have w3 : IntKind.i64.wrap ((N : Int) - 1) = (k : Int) := by rw [wrap_i64 (by omega) (by omega)]; omega
  have m1 : ¬ (l.length : Int) + 1 < (N : Int) := by omega
  rw [callA_fn rfl Tryz.func122 rfl rfl rfl]
  simp [-frame, -getElem?_pos, -step_some, stepN, -evMake, Tryz.f122, hS, hq, strP, hl1, hc, ba_size, w1, w2, m1]
  rw [evMake_str (by omega) (by omega) (by omega)]
  have hrow : List.replicate N (strL []) = rowW ws 0 ws.length := by unfold rowW; rw [hNe]; simp
  simp [-frame, -getElem?_pos, -step_some, stepN, w3, hrow]
  refine loop_rule (fun d st => ∃ (i : Nat) (r : List UInt8) (A : List (Nat × TV)), st = { tm := frameOf 66 A, sus := [], so := [(31, .row 9 (rowW ws i ws.length))] } ∧ look A 0 = .val (.string ⟨r.toArray⟩) ∧ look A 1 = .val (.string ⟨#[c]⟩) ∧ look A 2 = .val (.int .i64 0) ∧ look A 3 = .val (.int .i64 k) ∧ look A 9 = .row 31 0 N ∧ look A 10 = .val (.int .i64 i) ∧ d = k - i ∧ i ≤ k ∧ r.length ≤ l.length ∧ ws.drop i = splitL c r) ?_ _ k _ (by omega) ⟨0, l, _, rfl, by simp, by simp, by simp, by simp, by simp, by simp, rfl, by omega, Nat.le_refl _, by simp [hws]⟩
  rintro d st m ⟨i, r, A, rfl, k0, k1, k2, k3, k9, k10, rfl, hi, hr, hdr⟩ ih
  have hsc := split_cut c r
  by_cases hlt : i < k
  · have hcut : (cutL c r).2.2 = true := by
      by_cases hb : (cutL c r).2.2 = true
      · exact hb
      · exfalso
        rw [if_neg hb] at hsc
        have := congrArg List.length hdr
        rw [hsc, List.length_drop] at this
        simp at this
        omega
    rw [if_pos hcut] at hsc
    have g := index_l n r c
    simp only [hS, hq, strP] at g
    rcases idx_cut c r 0 with ⟨_, h2⟩ | ⟨m', h1, h2, h3⟩
    · rw [h2] at hcut; simp at hcut
    · rw [h1, Int.zero_add] at g
      have hwi : ws[i]? = some (r.take m') := by
        have h4 := congrArg (fun x => x[0]?) (hdr.trans hsc)
        simp only [List.getElem?_drop, Nat.add_zero] at h4
        rw [h4, h3]; rfl
      have hdr' : ws.drop (i + 1) = splitL c (r.drop (m' + 1)) := by
        have h4 := congrArg (List.drop 1) (hdr.trans hsc)
        rw [List.drop_drop] at h4
        rw [h4, h3]; rfl
      have hget := rowW_get ws i (by omega)
      have hset := rowW_set ws i _ hwi
      have hwm : IntKind.i64.wrap ((m' : Int) + 0) = (m' : Int) := by rw [wrap_i64 (by omega) (by omega)]; omega
      have hwm' : IntKind.i64.wrap (m' : Int) = (m' : Int) := wrap_i64 (by omega) (by omega)
      have hw1 : IntKind.i64.wrap ((m' : Int) + 1) = (m' : Int) + 1 := wrap_i64 (by omega) (by omega)
      have hwi1 := wrap_succ hlt (by omega)
      have hd : decide ((i : Int) < (k : Int)) = true := by simp [hlt]
      have hm0 : ¬ (m' : Int) < 0 := by omega
      have c1 : (ByteArray.mk r.toArray).extract 0 m' = ByteArray.mk (r.take m').toArray := by rw [ba_cut]; simp
      have c2 : (ByteArray.mk r.toArray).extract (m' + 1) r.length = ByteArray.mk (r.drop (m' + 1)).toArray := by rw [ba_cut]; simp
      have hNi : i < N := by omega
      have hset' : (rowW ws i ws.length).set i (PV.val (.string ⟨(r.take m').toArray⟩)) = rowW ws (i + 1) ws.length := hset
      have hget' : (rowW ws i ws.length)[i]? = some (PV.val (.string ⟨[].toArray⟩)) := hget
      simp [-frame, -getElem?_pos, -step_some, stepN, k0, k1, k2, k3, k9, k10, hd, hlt, g, hm0, hwm, hwm', hw1, hwi1, hz, ba_size, show (m' : Int) ≤ r.length by omega, show (m' : Int) + 1 ≤ r.length by omega, show 0 ≤ (m' : Int) + 1 by omega, c1, c2, hNi, sizeT_str, elemT_strs, hget', rowO, mkPV, putPV]
      exact ih _ _ (by omega) ⟨i + 1, r.drop (m' + 1), _, by rw [← hset'], by simp, by simp [k1], by simp [k2], by simp [k3], by simp [k9], by simp, rfl, by omega, by rw [List.length_drop]; omega, hdr'⟩
  · obtain rfl : i = k := by omega
    have hb : ¬ (cutL c r).2.2 = true := by
      intro hb
      rw [if_pos hb] at hsc
      have h1 := congrArg List.length hdr
      have h2 := split_len c (cutL c r).2.1
      rw [hsc, List.length_drop, List.length_cons] at h1
      omega
    rw [if_neg hb] at hsc
    have hwi : ws[i]? = some r := by
      have h4 := congrArg (fun x => x[0]?) (hdr.trans hsc)
      simp only [List.getElem?_drop, Nat.add_zero] at h4
      rw [h4]; rfl
    have hget := rowW_get ws i (by omega)
    have hset := rowW_set ws i _ hwi
    have hfin : rowW ws (i + 1) ws.length = ws.map strL := by
      unfold rowW
      rw [show ws.length - (i + 1) = 0 by omega, List.take_of_length_le (by omega)]
      simp
    rw [hfin] at hset
    have hd : decide ((i : Int) < (i : Int)) = false := by simp
    have hNi : i < N := by omega
    have hwi1 : IntKind.i64.wrap ((i : Int) + 1) = (i : Int) + 1 := wrap_i64 (by omega) (by omega)
    have hset' : (rowW ws i ws.length).set i (PV.val (.string ⟨r.toArray⟩)) = ws.map strL := hset
    have hget' : (rowW ws i ws.length)[i]? = some (PV.val (.string ⟨[].toArray⟩)) := hget
    have hNle : (i : Int) + 1 ≤ (N : Int) := by omega
    have htk : List.take (i + 1) (ws.map strL) = ws.map strL := List.take_of_length_le (by simp; omega)
    have hi1 : i + 1 ≤ ws.length := by omega
    rw [← hws]
    simp [-frame, -getElem?_pos, -step_some, stepN, k0, k1, k2, k3, k9, k10, hd, hwi1, hNi, sizeT_str, elemT_strs, hget', rowO, mkPV, putPV, hset', hNle, htk, hi1, show 0 ≤ (i : Int) + 1 by omega]
theorem split_l (n : Nat) (l : List UInt8) (c : UInt8) (hl : l.length ≤ 1000000000) (hn : l.length ≤ n) :
    (ev Tryz.prog tab (n + 6)).callA 90 [strL l, strP ⟨#[c]⟩] = some [.sl ((splitL c l).map strL)] := by
  have hS : ∀ m, strL m = .val (.string ⟨m.toArray⟩) := fun _ => rfl
  have hq : ∀ z : Int, intP z = .val (.int .i64 z) := fun _ => rfl
  have g := genSplit_l n l c hl hn
  obtain ⟨WS, hWS⟩ : ∃ WS, WS = (splitL c l).map strL := ⟨_, rfl⟩
  rw [← hWS] at g ⊢
  simp only [hS, hq, strP] at g
  rw [callA_fn rfl Tryz.func90 rfl rfl rfl]
  simp [-frame, -getElem?_pos, -step_some, stepN, Tryz.f90, hS, strP, g]
end Go.Proofs.YtlhjljplfmmoaaaGreatDoor.Ev
namespace Go.Proofs.YtlhjljplfmmoaaaGreatDoor.Ev
open Go
set_option linter.unusedSimpArgs false
set_option linter.unusedVariables false
set_option maxRecDepth 10000
set_option maxHeartbeats 4000000
open Nb
def prC (c : UInt8) : Bool := decide (32 ≤ c.toNat) && decide (c.toNat ≤ 126)
theorem printableK_l (n : Nat) (l : List UInt8) (hl : l.length ≤ 1000000000) (hn : l.length ≤ n) :
    (ev Tryz.prog tab (n + 1)).callA 46 [strL l] = some [.val (.bool (l.all prC))] := by
  have hS : ∀ m, strL m = .val (.string ⟨m.toArray⟩) := fun _ => rfl
  have hu8 : u8s ⟨l.toArray⟩ = l.map bp8 := u8s_bp8 (by simp)
  rw [callA_fn rfl Tryz.func46 rfl rfl rfl]
  simp [-frame, -getElem?_pos, -step_some, stepN, Tryz.f46, hS, hu8, ba_size, show l.length ≤ 9223372036854775807 by omega]
  obtain ⟨V, hV⟩ : ∃ V, V = l.all prC := ⟨_, rfl⟩
  rw [← hV]
  refine loop_rule (fun d st => ∃ (i : Nat) (A : List (Nat × TV)), st = { tm := frameOf 19 A, sus := [], so := [] } ∧ look A 6 = .sl (l.map bp8) ∧ look A 7 = .val (.int .i64 l.length) ∧ look A 8 = .val (.int .i64 i) ∧ d = l.length - i ∧ i ≤ l.length ∧ (l.take i).all prC = true) ?_ _ l.length _ (by omega) ⟨0, _, rfl, by simp, by simp, by simp, rfl, by omega, by simp⟩
  rintro d st m ⟨i, A, rfl, k6, k7, k8, rfl, hi, hall⟩ ih
  by_cases hlt : i < l.length
  · obtain ⟨c, hc⟩ : ∃ c, l[i]? = some c := ⟨l[i], by simp⟩
    have hc' : (l.map bp8)[i]? = some (bp8 c) := by simp [hc]
    have hw := wrap_succ hlt (by omega)
    have hd : decide ((i : Int) < l.length) = true := by simp [hlt]
    by_cases h1 : (c.toNat : Int) < 32
    · have hV' : V = false := by rw [hV]; exact all_not hc (by simp [prC]; omega)
      rw [hV']
      simp [-frame, -getElem?_pos, -step_some, stepN, k6, k7, k8, hd, hlt, hc, bp8, h1]
    · by_cases h2 : 126 < (c.toNat : Int)
      · have hV' : V = false := by rw [hV]; exact all_not hc (by simp [prC]; omega)
        rw [hV']
        simp [-frame, -getElem?_pos, -step_some, stepN, k6, k7, k8, hd, hlt, hc, bp8, h1, h2]
      · simp [-frame, -getElem?_pos, -step_some, stepN, k6, k7, k8, hd, hlt, hc, bp8, h1, h2, hw]
        exact ih _ _ (by omega) ⟨i + 1, _, rfl, by simp [k6], by simp [k7], by simp, rfl, by omega, all_take hall hc (by simp [prC]; omega)⟩
  · obtain rfl : i = l.length := by omega
    rw [List.take_length] at hall
    have hd : decide ((l.length : Int) < l.length) = false := by simp
    rw [hV, hall]
    simp [-frame, -getElem?_pos, -step_some, stepN, k6, k7, k8, hd]
def headW (w : List UInt8) : Bool := match w with
  | c :: _ => !decide (c.toNat = 48)
  | [] => false
def okW (w : List UInt8) : Bool := headW w && decide (w.length ≤ 7) && w.all digC
def valW (w : List UInt8) : Int := (decV w : Int) - 1
def listL (s : List UInt8) : Option (List Int) :=
  if s = [42] then some [] else if (splitL 44 s).all okW = true then some ((splitL 44 s).map valW) else none
def listR (s : List UInt8) : List PV := match listL s with
  | some l => [.sl (l.map intP), .val (.bool true)]
  | none => [.sl [], .val (.bool false)]
theorem decV7 {w : List UInt8} (h : w.all digC = true) (hl : w.length ≤ 7) : decV w < 10000000 :=
  Nat.lt_of_lt_of_le (decV_lt w h) (Nat.pow_le_pow_right (by decide) hl)
theorem list_l (n : Nat) (s : List UInt8) (hl : s.length ≤ 1000000000) (hn : s.length + 10 ≤ n) :
    (ev Tryz.prog tab (n + 7)).callA 52 [strL s] = some (listR s) := by
  have hS : ∀ m, strL m = .val (.string ⟨m.toArray⟩) := fun _ => rfl
  have hq : ∀ z : Int, intP z = .val (.int .i64 z) := fun _ => rfl
  have hsp := split_l n s 44 (by omega) (by omega)
  have h42 : (ByteArray.mk #[42]).toList = [42] := ba_list [42]
  obtain ⟨V, hV⟩ : ∃ V, V = listR s := ⟨_, rfl⟩
  rw [← hV]
  simp only [hS, strP] at hsp
  rw [callA_fn rfl Tryz.func52 rfl rfl rfl]
  by_cases h0 : s = [42]
  · subst h0
    have hV' : V = [.sl [], .val (.bool true)] := by rw [hV]; simp [listR, listL]
    rw [hV']
    simp [-frame, -getElem?_pos, -step_some, stepN, Tryz.f52, hS, ba_list, h42]
  · obtain ⟨ws, hws⟩ : ∃ ws, ws = splitL 44 s := ⟨_, rfl⟩
    rw [← hws] at hsp
    have hwl : ws.length ≤ s.length + 1 := by rw [hws, split_len]; have := countL_le 44 s; omega
    have bad : ws.all okW = false → V = [.sl [], .val (.bool false)] := fun h => by
      rw [hV]; unfold listR listL; rw [if_neg h0, ← hws, if_neg (by rw [h]; decide)]
    have hb0 : (s == [42]) = false := beq_eq_false_iff_ne.2 h0
    simp [-frame, -getElem?_pos, -step_some, stepN, Tryz.f52, hS, ba_list, h42, hb0, hsp]
    refine loop_rule (fun d st => ∃ (i : Nat) (so : Store) (X : TV) (A : List (Nat × TV)), st = { tm := frameOf 59 A, sus := [], so := so } ∧ look A 13 = .sl (ws.map strL) ∧ look A 14 = .val (.int .i64 ws.length) ∧ look A 15 = .val (.int .i64 i) ∧ look A 4 = X ∧ d = ws.length - i ∧ i ≤ ws.length ∧ (ws.take i).all okW = true ∧
      ((i = 0 ∧ so = [] ∧ X = .nil) ∨ ∃ y, so = [(55, .row 3 [y]), (56, .row 3 ((ws.take i).map fun w => intP (valW w)))] ∧ X = .row 56 0 i)) ?_ _ ws.length _ (by omega) ⟨0, _, _, _, rfl, by simp, by simp, by simp, rfl, rfl, by omega, by simp, .inl ⟨rfl, rfl, by simp⟩⟩
    rintro d st m ⟨i, so, X, A, rfl, k13, k14, k15, k4, rfl, hi, hall, hso⟩ ih
    by_cases hlt : i < ws.length
    · obtain ⟨w, hw⟩ : ∃ w, ws[i]? = some w := ⟨ws[i], by simp⟩
      have hwi := wrap_succ hlt (by omega)
      have hd : decide ((i : Int) < ws.length) = true := by simp [hlt]
      cases hcw : w with
      | nil =>
        rw [bad (all_not hw (by rw [hcw]; rfl))]
        subst hcw
        simp [-frame, -getElem?_pos, -step_some, stepN, k13, k14, k15, hd, hlt, hw, hS, ba_size]
      | cons c t =>
        have hg0 : (ByteArray.mk w.toArray)[0]? = some c := by rw [ba_get, hcw]; rfl
        have hl1 : ¬ (w.length : Int) < 1 := by rw [hcw]; simp only [List.length_cons]; omega
        have hl1' : ¬ w.length = 0 := by rw [hcw]; simp
        have hwne : ¬ w = [] := by rw [hcw]; simp
        by_cases h7 : (7 : Int) < (w.length : Int)
        · rw [bad (all_not hw (by unfold okW; simp; intro _ _; omega))]
          simp [-frame, -getElem?_pos, -step_some, stepN, k13, k14, k15, hd, hlt, hw, hS, ba_size, hl1, hl1', hwne, h7]
        · by_cases h48 : (c.toNat : Int) = 48
          · rw [bad (all_not hw (by unfold okW headW; rw [hcw]; simp; intro h; omega))]
            simp [-frame, -getElem?_pos, -step_some, stepN, k13, k14, k15, hd, hlt, hw, hS, ba_size, hl1, hl1', hwne, h7, hg0, h48]
          · have hu8 : u8s ⟨w.toArray⟩ = w.map bp8 := u8s_bp8 (by simp)
            have hhd : headW w = true := by rw [hcw]; simp [headW]; omega
            have hsz : w.length ≤ 9223372036854775807 := by omega
            simp [-frame, -getElem?_pos, -step_some, stepN, k13, k14, k15, hd, hlt, hw, hS, ba_size, hl1, hl1', hwne, h7, hg0, h48, hu8, hsz]
            refine loop_rule (fun d st => ∃ (j : Nat) (A : List (Nat × TV)), st = { tm := frameOf 59 A, sus := [], so := so } ∧ look A 13 = .sl (ws.map strL) ∧ look A 14 = .val (.int .i64 ws.length) ∧ look A 15 = .val (.int .i64 i) ∧ look A 4 = X ∧ look A 33 = .sl (w.map bp8) ∧ look A 34 = .val (.int .i64 w.length) ∧ look A 35 = .val (.int .i64 j) ∧ look A 7 = .val (.int .i64 (decV (w.take j) : Nat)) ∧ d = w.length - j ∧ j ≤ w.length ∧ (w.take j).all digC = true) ?_ _ w.length _ (by omega) ⟨0, _, rfl, by simp [k13, hS], by simp [k14], by simp [k15], by simp [k4], by simp, by simp, by simp, by simp [decV], rfl, by omega, by simp⟩
            clear k13 k14 k15 k4
            rintro d st m2 ⟨j, A, rfl, k13, k14, k15, k4, k33, k34, k35, k7, rfl, hj, hdig⟩ ih2
            have hv7 := decV7 hdig (by rw [List.length_take]; omega)
            obtain ⟨v, hv⟩ : ∃ v, v = decV (w.take j) := ⟨_, rfl⟩
            rw [← hv] at hv7 k7
            by_cases hlt2 : j < w.length
            · obtain ⟨x, hx⟩ : ∃ x, w[j]? = some x := ⟨w[j], by simp⟩
              have hw2 := wrap_succ hlt2 (by omega)
              have hd2 : decide ((j : Int) < w.length) = true := by simp [hlt2]
              have nod : digC x = false → V = [.sl [], .val (.bool false)] := fun h => bad (all_not hw (by
                unfold okW
                rw [show w.all digC = false from all_not hx h]; simp))
              by_cases h1 : (x.toNat : Int) < 48
              · rw [nod (by simp [digC]; omega)]
                simp [-frame, -getElem?_pos, -step_some, stepN, k33, k34, k35, k7, hd2, hlt2, hx, bp8, h1]
              · by_cases h2 : 57 < (x.toNat : Int)
                · rw [nod (by simp [digC]; omega)]
                  simp [-frame, -getElem?_pos, -step_some, stepN, k33, k34, k35, k7, hd2, hlt2, hx, bp8, h1, h2]
                · obtain ⟨e, he⟩ : ∃ e, e = x.toNat - 48 := ⟨_, rfl⟩
                  have e1 : IntKind.u8.wrap ((x.toNat : Int) - 48) = (e : Int) := by rw [wrap_u8 (by omega) (by omega)]; omega
                  have e2 : IntKind.i64.wrap (e : Int) = (e : Int) := wrap_i64 (by omega) (by omega)
                  have e3 : IntKind.i64.wrap (10 * (v : Int)) = 10 * (v : Int) := wrap_i64 (by omega) (by omega)
                  obtain ⟨v2, hv2⟩ : ∃ v2, v2 = decV (w.take (j + 1)) := ⟨_, rfl⟩
                  have hvv : v2 = v * 10 + e := by rw [hv2, decV_take hx, hv, he]
                  have e4 : IntKind.i64.wrap (10 * (v : Int) + (e : Int)) = (v2 : Int) := by rw [wrap_i64 (by omega) (by omega)]; omega
                  simp [-frame, -getElem?_pos, -step_some, stepN, k33, k34, k35, k7, hd2, hlt2, hx, bp8, h1, h2, e1, e2, e3, e4, hw2]
                  exact ih2 _ _ (by omega) ⟨j + 1, _, rfl, by simp [k13], by simp [k14], by simp [k15], by simp [k4], by simp [k33], by simp [k34], by simp, by simp [hv2], rfl, by omega, all_take hdig hx (by simp [digC]; omega)⟩
            · obtain rfl : j = w.length := by omega
              rw [List.take_length] at hdig hv
              have hd2 : decide ((w.length : Int) < w.length) = false := by simp
              have hok : okW w = true := by unfold okW; rw [hhd, hdig]; simp; omega
              have e5 : IntKind.i64.wrap ((v : Int) - 1) = valW w := by rw [wrap_i64 (by omega) (by omega)]; unfold valW; rw [hv]
              have hmap : (ws.take i).map (fun w => intP (valW w)) ++ [PV.val (.int .i64 (valW w))] = (ws.take (i + 1)).map fun w => intP (valW w) := by rw [List.take_add_one, hw]; simp [hq]
              have hli : ((ws.take i).map fun w => intP (valW w)).length = i := by rw [List.length_map, List.length_take]; omega
              obtain ⟨L, hL⟩ : ∃ L, L = (ws.take i).map fun w => intP (valW w) := ⟨_, rfl⟩
              rw [← hL] at hmap hli hso
              rcases hso with ⟨rfl, rfl, rfl⟩ | ⟨y, rfl, rfl⟩
              · simp [-frame, -getElem?_pos, -step_some, stepN, k33, k34, k35, k7, k4, hd2, e5, k13, k14, k15, wrap_one]
                have hL0 : L = [] := by rw [hL]; simp
                exact ih _ _ (by omega) ⟨0 + 1, _, _, _, rfl, by simp [k13], by simp [k14], by simp, rfl, rfl, by omega, all_take hall hw hok, .inr ⟨_, by rw [← hmap, hL0]; rfl, by simp⟩⟩
              · have l1 : i ≤ 9223372036854775806 := by omega
                have l2 : i + 1 ≤ 9223372036854775807 := by omega
                have l3 : (i + 1) * 8 ≤ 140737488355328 := by omega
                simp [-frame, -getElem?_pos, -step_some, stepN, k33, k34, k35, k7, k4, hd2, e5, k13, k14, k15, hli, l1, l2, l3, hwi]
                exact ih _ _ (by omega) ⟨i + 1, _, _, _, rfl, by simp [k13], by simp [k14], by simp, rfl, rfl, by omega, all_take hall hw hok, .inr ⟨_, by rw [← hmap], by simp⟩⟩
    · obtain rfl : i = ws.length := by omega
      have hd : decide ((ws.length : Int) < ws.length) = false := by simp
      rw [List.take_length] at hall
      have hV' : V = [.sl ((ws.map fun w => intP (valW w))), .val (.bool true)] := by
        rw [hV]; unfold listR listL; rw [if_neg h0, ← hws, if_pos hall]; simp
      rw [hV']
      have hne : ws.length ≠ 0 := by rw [hws, split_len]; omega
      rcases hso with ⟨h, _⟩ | ⟨y, rfl, rfl⟩
      · exact absurd h hne
      · rw [List.take_length]
        have htk : List.take ws.length (ws.map fun w => intP (valW w)) = ws.map fun w => intP (valW w) := List.take_of_length_le (by simp)
        simp [-frame, -getElem?_pos, -step_some, stepN, k4, k13, k14, k15, hd, htk]
end Go.Proofs.YtlhjljplfmmoaaaGreatDoor.Ev
