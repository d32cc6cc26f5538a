/- keying.Normal: what it computes. -/
import Derived.Test.YtlhjljplfmmoaaaGreatDoorF20
import Derived.Test.YtlhjljplfmmoaaaGreatDoorM1
namespace Go.Proofs.YtlhjljplfmmoaaaGreatDoor.Ev
open Go
set_option linter.unusedSimpArgs false
set_option linter.unusedVariables false
set_option maxRecDepth 10000
set_option maxHeartbeats 4000000
theorem cell79 : elemT Tryz.prog 79 = some 5 := by kernel_rfl
def bp (c : UInt8) : PV := .val (.int .u8 c.toNat)
theorem u8s_eq {s : ByteArray} {l : List UInt8} (hl : s.data.toList = l) : u8s s = l.map bp := by unfold u8s; rw [hl]; rfl
theorem strOf_bp (b : List UInt8) : strOf (b.map bp) = some b := by
  induction b with
  | nil => rfl
  | cons c t ih =>
    show (strOf (t.map bp)).map (UInt8.ofNat ((c.toNat : Int).toNat) :: ·) = _
    rw [ih]; simp
theorem sized_bp (b : List UInt8) : sizedAll 1 (b.map bp) = true := by
  induction b with
  | nil => rfl
  | cons c t ih => simp only [List.map_cons, sizedAll, ih]; rfl
def killF (so : Store) (k : Nat) : TV → TV := match so.get k with
  | none => id
  | some _ => map3 (kill1 k)
def killS (so : Store) (k : Nat) : Store := match so.get k with
  | none => so
  | some _ => mapSo (kill1 k) (so.del k)
theorem kill_eq (L : List TV) (so : Store) (k : Nat) : St.kill { tm := L, sus := [], so := so } k = { tm := L.map (killF so k), sus := [], so := killS so k } := by
  unfold St.kill killF killS
  cases so.get k <;> simp
theorem killF_val (so : Store) (k : Nat) (v : Value) : killF so k (.val v) = .val v := by unfold killF; cases so.get k <;> rfl
theorem killF_sl (so : Store) (k : Nat) (xs : List PV) : killF so k (.sl xs) = .sl xs := by unfold killF; cases so.get k <;> rfl
theorem killF_nil (so : Store) (k : Nat) : killF so k .nil = .nil := by unfold killF; cases so.get k <;> rfl
theorem killF_row (so : Store) (k j o l : Nat) (h : j ≠ k) : killF so k (.row j o l) = .row j o l := by
  unfold killF; cases so.get k <;> simp [map3, map2, kill1, h]
theorem killS_get {so : Store} {k j : Nat} {e : TypeId} {xs : List PV} (h : so.get j = some (.row e xs)) (hj : j ≠ k) : (killS so k).get j = some (.row e xs) := by
  unfold killS
  cases so.get k with
  | none => exact h
  | some o => simp [get_mapSo, get_del, hj, h, SO.map]
theorem normal_ev (n : Nat) (s : ByteArray) (l : List UInt8) (hl : s.data.toList = l) (hs : s.size ≤ 140737488355328) (hn : s.size ≤ n) :
    (ev Tryz.prog tab (n + 4)).callA 19 [strP s] = some [strP ⟨(Kn.normal l).toArray⟩] := by
  have hsz := size_l hl
  have hu := u8s_eq hl
  have hs' : s.size ≤ 9223372036854775807 := by omega
  rw [callA_fn rfl Tryz.func19 rfl rfl rfl]
  simp [Tryz.f19, strP, hs', hu]
  refine loop_rule (fun d st => ∃ (i : Nat) (b3 : TV) (so : Store) (j1 j4 j5 j6 j10 j11 j12 j13 j14 j15 j16 j17 j18 j19 j20 j21 j22 j23 j24 j25 j26 j27 j28 j29 j30 j31 j32 j33 j34 j35 j36 j37 j38 j39 j40 j41 j42 j43 j44 j45 j46 j47 j48 j49 j50 j51 j52 j53 j54 j55 j56 j57 j58 j59 j60 j61 j62 j63 j64 j65 j66 j67 j68 j69 : TV), st = { tm := [.val (.string s), j1, .val (.string ⟨#[]⟩), b3, j4, j5, j6, .sl (l.map bp), .val (.int .i64 l.length), .val (.int .i64 i), j10, j11, j12, j13, j14, j15, j16, j17, j18, j19, j20, j21, j22, j23, j24, j25, j26, j27, j28, j29, j30, j31, j32, j33, j34, j35, j36, j37, j38, j39, j40, j41, j42, j43, j44, j45, j46, j47, j48, j49, j50, j51, j52, j53, j54, j55, j56, j57, j58, j59, j60, j61, j62, j63, j64, j65, j66, j67, j68, j69], sus := [], so := so } ∧ d = l.length - i ∧ i ≤ l.length ∧
    ((b3 = .nil ∧ (l.take i).foldl Kn.nstep [] = []) ∨ (∃ k, b3 = .row k 0 ((l.take i).foldl Kn.nstep []).length ∧ so.get k = some (.row 5 (((l.take i).foldl Kn.nstep []).map bp)) ∧ k ≠ 24 ∧ k ≠ 43 ∧ k ≠ 64))) ?_ _ l.length _ (by omega) ⟨0, _, _, _, _, _, _, _, _, _, _, _, _, _, _, _, _, _, _, _, _, _, _, _, _, _, _, _, _, _, _, _, _, _, _, _, _, _, _, _, _, _, _, _, _, _, _, _, _, _, _, _, _, _, _, _, _, _, _, _, _, _, _, _, _, _, _, rfl, rfl, by omega, .inl ⟨rfl, by simp⟩⟩
  rintro d st m ⟨i, b3, so, j1, j4, j5, j6, j10, j11, j12, j13, j14, j15, j16, j17, j18, j19, j20, j21, j22, j23, j24, j25, j26, j27, j28, j29, j30, j31, j32, j33, j34, j35, j36, j37, j38, j39, j40, j41, j42, j43, j44, j45, j46, j47, j48, j49, j50, j51, j52, j53, j54, j55, j56, j57, j58, j59, j60, j61, j62, j63, j64, j65, j66, j67, j68, j69, rfl, rfl, hi, hb⟩ ih
  obtain ⟨b, hbe⟩ : ∃ b, (l.take i).foldl Kn.nstep [] = b := ⟨_, rfl⟩
  rw [hbe] at hb
  have hbl : b.length ≤ i := by
    have := Kn.fold_length (l.take i) []
    rw [hbe, List.length_take] at this
    simp at this
    omega
  by_cases hlt : i < l.length
  · obtain ⟨c, hc⟩ : ∃ c, l[i]? = some c := ⟨l[i], by simp⟩
    have hw := wrap_succ hlt (by omega)
    have hd : decide ((i : Int) < l.length) = true := by simp [hlt]
    have hst : (l.take (i + 1)).foldl Kn.nstep [] = Kn.nstep b c := by
      rw [List.take_add_one, List.foldl_append, hbe, hc]; rfl
    have h1 : (c.toNat < 48 ∧ c.toNat ≠ 32) ∨ (c.toNat = 32) ∨ (48 ≤ c.toNat ∧ c.toNat ≤ 57) ∨ (57 < c.toNat ∧ c.toNat < 65) ∨ (65 ≤ c.toNat ∧ c.toNat ≤ 90) ∨ (90 < c.toNat ∧ c.toNat < 97) ∨ (97 ≤ c.toNat ∧ c.toNat ≤ 122) ∨ (122 < c.toNat) := by omega
    rcases hb with ⟨rfl, rfl⟩ | ⟨k, rfl, hk, k1, k2, k3⟩
    · rcases h1 with h | h | h | h | h | h | h | h
      · have e65 : ¬ (65 : Int) ≤ c.toNat := by omega
        have e90 : (c.toNat : Int) ≤ 90 := by omega
        have e97 : ¬ (97 : Int) ≤ c.toNat := by omega
        have e122 : (c.toNat : Int) ≤ 122 := by omega
        have e48 : ¬ (48 : Int) ≤ c.toNat := by omega
        have e57 : (c.toNat : Int) ≤ 57 := by omega
        have e32 : ¬ (c.toNat : Int) = 32 := by omega
        have ha : Kn.alnum c = false := by simp [Kn.alnum]; omega
        have hU : Kn.upper c = false := by simp [Kn.upper]; omega
        have hs32 : (c == 32) = false := by rw [beq_eq_false_iff_ne]; intro he; rw [he] at e32; exact e32 rfl
        have hN : Kn.nstep [] c = [] := by unfold Kn.nstep; simp [ha, hU, hs32]
        simp [-St.kill, kill_eq, killF_val, killF_sl, killF_nil, killF_row, get_ins, -getElem?_pos, hd, hc, hlt, hw, bp, e65, e90, e97, e122, e48, e57, e32]
        exact ih _ _ (by omega) ⟨i + 1, _, _, _, _, _, _, _, _, _, _, _, _, _, _, _, _, _, _, _, _, _, _, _, _, _, _, _, _, _, _, _, _, _, _, _, _, _, _, _, _, _, _, _, _, _, _, _, _, _, _, _, _, _, _, _, _, _, _, _, _, _, _, _, _, _, _, rfl, rfl, by omega, .inl ⟨rfl, by rw [hst, hN]⟩⟩
      · have e65 : ¬ (65 : Int) ≤ c.toNat := by omega
        have e90 : (c.toNat : Int) ≤ 90 := by omega
        have e97 : ¬ (97 : Int) ≤ c.toNat := by omega
        have e122 : (c.toNat : Int) ≤ 122 := by omega
        have e48 : ¬ (48 : Int) ≤ c.toNat := by omega
        have e57 : (c.toNat : Int) ≤ 57 := by omega
        have e32 : (c.toNat : Int) = 32 := by omega
        have hc32 : c = 32 := by apply UInt8.toNat_inj.1; show c.toNat = 32; omega
        have ha : Kn.alnum c = false := by rw [hc32]; rfl
        have hU : Kn.upper c = false := by rw [hc32]; rfl
        have hN : Kn.nstep [] c = [] := by unfold Kn.nstep; simp [ha, hU]
        simp [-St.kill, kill_eq, killF_val, killF_sl, killF_nil, killF_row, get_ins, -getElem?_pos, hd, hc, hlt, hw, bp, e65, e90, e97, e122, e48, e57, e32]
        exact ih _ _ (by omega) ⟨i + 1, _, _, _, _, _, _, _, _, _, _, _, _, _, _, _, _, _, _, _, _, _, _, _, _, _, _, _, _, _, _, _, _, _, _, _, _, _, _, _, _, _, _, _, _, _, _, _, _, _, _, _, _, _, _, _, _, _, _, _, _, _, _, _, _, _, _, rfl, rfl, by omega, .inl ⟨rfl, by rw [hst, hN]⟩⟩
      · have e65 : ¬ (65 : Int) ≤ c.toNat := by omega
        have e90 : (c.toNat : Int) ≤ 90 := by omega
        have e97 : ¬ (97 : Int) ≤ c.toNat := by omega
        have e122 : (c.toNat : Int) ≤ 122 := by omega
        have e48 : (48 : Int) ≤ c.toNat := by omega
        have e57 : (c.toNat : Int) ≤ 57 := by omega
        have e32 : ¬ (c.toNat : Int) = 32 := by omega
        have ha : Kn.alnum c = true := by simp [Kn.alnum]; omega
        have hN : Kn.nstep [] c = [] ++ [c] := by unfold Kn.nstep; rw [if_neg (by rw [Kn.alnum_upper ha]; simp), if_pos ha]
        simp [-St.kill, kill_eq, killF_val, killF_sl, killF_nil, killF_row, get_ins, -getElem?_pos, hd, hc, hlt, hw, bp, e65, e90, e97, e122, e48, e57, e32]
        refine ih _ _ (by omega) ⟨i + 1, _, _, _, _, _, _, _, _, _, _, _, _, _, _, _, _, _, _, _, _, _, _, _, _, _, _, _, _, _, _, _, _, _, _, _, _, _, _, _, _, _, _, _, _, _, _, _, _, _, _, _, _, _, _, _, _, _, _, _, _, _, _, _, _, _, _, rfl, rfl, by omega, .inr ⟨44, ?_, ?_, by decide, by decide, by decide⟩⟩
        · rw [hst, hN]; simp
        · rw [hst, hN, get_ins]; simp [bp]
      · have e65 : ¬ (65 : Int) ≤ c.toNat := by omega
        have e90 : (c.toNat : Int) ≤ 90 := by omega
        have e97 : ¬ (97 : Int) ≤ c.toNat := by omega
        have e122 : (c.toNat : Int) ≤ 122 := by omega
        have e48 : (48 : Int) ≤ c.toNat := by omega
        have e57 : ¬ (c.toNat : Int) ≤ 57 := by omega
        have e32 : ¬ (c.toNat : Int) = 32 := by omega
        have ha : Kn.alnum c = false := by simp [Kn.alnum]; omega
        have hU : Kn.upper c = false := by simp [Kn.upper]; omega
        have hs32 : (c == 32) = false := by rw [beq_eq_false_iff_ne]; intro he; rw [he] at e32; exact e32 rfl
        have hN : Kn.nstep [] c = [] := by unfold Kn.nstep; simp [ha, hU, hs32]
        simp [-St.kill, kill_eq, killF_val, killF_sl, killF_nil, killF_row, get_ins, -getElem?_pos, hd, hc, hlt, hw, bp, e65, e90, e97, e122, e48, e57, e32]
        exact ih _ _ (by omega) ⟨i + 1, _, _, _, _, _, _, _, _, _, _, _, _, _, _, _, _, _, _, _, _, _, _, _, _, _, _, _, _, _, _, _, _, _, _, _, _, _, _, _, _, _, _, _, _, _, _, _, _, _, _, _, _, _, _, _, _, _, _, _, _, _, _, _, _, _, _, rfl, rfl, by omega, .inl ⟨rfl, by rw [hst, hN]⟩⟩
      · have e65 : (65 : Int) ≤ c.toNat := by omega
        have e90 : (c.toNat : Int) ≤ 90 := by omega
        have e97 : ¬ (97 : Int) ≤ c.toNat := by omega
        have e122 : (c.toNat : Int) ≤ 122 := by omega
        have e48 : (48 : Int) ≤ c.toNat := by omega
        have e57 : ¬ (c.toNat : Int) ≤ 57 := by omega
        have e32 : ¬ (c.toNat : Int) = 32 := by omega
        have hU : Kn.upper c = true := by simp [Kn.upper]; omega
        have hN : Kn.nstep [] c = [] ++ [c + 32] := by unfold Kn.nstep; rw [if_pos hU]
        have hv1 : IntKind.u8.wrap ((c.toNat : Int) - 65) = c.toNat - 65 := wrap_u8 (by omega) (by omega)
        have hv2 : IntKind.u8.wrap ((c.toNat : Int) - 65 + 97) = (c.toNat : Int) + 32 := by rw [wrap_u8 (by omega) (by omega)]; omega
        have hv3 := Kn.upper_add hU
        simp [-St.kill, kill_eq, killF_val, killF_sl, killF_nil, killF_row, get_ins, -getElem?_pos, hd, hc, hlt, hw, bp, e65, e90, e97, e122, e48, e57, e32, hv1, hv2]
        refine ih _ _ (by omega) ⟨i + 1, _, _, _, _, _, _, _, _, _, _, _, _, _, _, _, _, _, _, _, _, _, _, _, _, _, _, _, _, _, _, _, _, _, _, _, _, _, _, _, _, _, _, _, _, _, _, _, _, _, _, _, _, _, _, _, _, _, _, _, _, _, _, _, _, _, _, rfl, rfl, by omega, .inr ⟨25, ?_, ?_, by decide, by decide, by decide⟩⟩
        · rw [hst, hN]; simp
        · rw [hst, hN, get_ins, List.map_append]; simp only [List.map_cons, List.map_nil, bp, hv3]; simp [bp]
      · have e65 : (65 : Int) ≤ c.toNat := by omega
        have e90 : ¬ (c.toNat : Int) ≤ 90 := by omega
        have e97 : ¬ (97 : Int) ≤ c.toNat := by omega
        have e122 : (c.toNat : Int) ≤ 122 := by omega
        have e48 : (48 : Int) ≤ c.toNat := by omega
        have e57 : ¬ (c.toNat : Int) ≤ 57 := by omega
        have e32 : ¬ (c.toNat : Int) = 32 := by omega
        have ha : Kn.alnum c = false := by simp [Kn.alnum]; omega
        have hU : Kn.upper c = false := by simp [Kn.upper]; omega
        have hs32 : (c == 32) = false := by rw [beq_eq_false_iff_ne]; intro he; rw [he] at e32; exact e32 rfl
        have hN : Kn.nstep [] c = [] := by unfold Kn.nstep; simp [ha, hU, hs32]
        simp [-St.kill, kill_eq, killF_val, killF_sl, killF_nil, killF_row, get_ins, -getElem?_pos, hd, hc, hlt, hw, bp, e65, e90, e97, e122, e48, e57, e32]
        exact ih _ _ (by omega) ⟨i + 1, _, _, _, _, _, _, _, _, _, _, _, _, _, _, _, _, _, _, _, _, _, _, _, _, _, _, _, _, _, _, _, _, _, _, _, _, _, _, _, _, _, _, _, _, _, _, _, _, _, _, _, _, _, _, _, _, _, _, _, _, _, _, _, _, _, _, rfl, rfl, by omega, .inl ⟨rfl, by rw [hst, hN]⟩⟩
      · have e65 : (65 : Int) ≤ c.toNat := by omega
        have e90 : ¬ (c.toNat : Int) ≤ 90 := by omega
        have e97 : (97 : Int) ≤ c.toNat := by omega
        have e122 : (c.toNat : Int) ≤ 122 := by omega
        have e48 : (48 : Int) ≤ c.toNat := by omega
        have e57 : ¬ (c.toNat : Int) ≤ 57 := by omega
        have e32 : ¬ (c.toNat : Int) = 32 := by omega
        have ha : Kn.alnum c = true := by simp [Kn.alnum]; omega
        have hN : Kn.nstep [] c = [] ++ [c] := by unfold Kn.nstep; rw [if_neg (by rw [Kn.alnum_upper ha]; simp), if_pos ha]
        simp [-St.kill, kill_eq, killF_val, killF_sl, killF_nil, killF_row, get_ins, -getElem?_pos, hd, hc, hlt, hw, bp, e65, e90, e97, e122, e48, e57, e32]
        refine ih _ _ (by omega) ⟨i + 1, _, _, _, _, _, _, _, _, _, _, _, _, _, _, _, _, _, _, _, _, _, _, _, _, _, _, _, _, _, _, _, _, _, _, _, _, _, _, _, _, _, _, _, _, _, _, _, _, _, _, _, _, _, _, _, _, _, _, _, _, _, _, _, _, _, _, rfl, rfl, by omega, .inr ⟨44, ?_, ?_, by decide, by decide, by decide⟩⟩
        · rw [hst, hN]; simp
        · rw [hst, hN, get_ins]; simp [bp]
      · have e65 : (65 : Int) ≤ c.toNat := by omega
        have e90 : ¬ (c.toNat : Int) ≤ 90 := by omega
        have e97 : (97 : Int) ≤ c.toNat := by omega
        have e122 : ¬ (c.toNat : Int) ≤ 122 := by omega
        have e48 : (48 : Int) ≤ c.toNat := by omega
        have e57 : ¬ (c.toNat : Int) ≤ 57 := by omega
        have e32 : ¬ (c.toNat : Int) = 32 := by omega
        have ha : Kn.alnum c = false := by simp [Kn.alnum]; omega
        have hU : Kn.upper c = false := by simp [Kn.upper]; omega
        have hs32 : (c == 32) = false := by rw [beq_eq_false_iff_ne]; intro he; rw [he] at e32; exact e32 rfl
        have hN : Kn.nstep [] c = [] := by unfold Kn.nstep; simp [ha, hU, hs32]
        simp [-St.kill, kill_eq, killF_val, killF_sl, killF_nil, killF_row, get_ins, -getElem?_pos, hd, hc, hlt, hw, bp, e65, e90, e97, e122, e48, e57, e32]
        exact ih _ _ (by omega) ⟨i + 1, _, _, _, _, _, _, _, _, _, _, _, _, _, _, _, _, _, _, _, _, _, _, _, _, _, _, _, _, _, _, _, _, _, _, _, _, _, _, _, _, _, _, _, _, _, _, _, _, _, _, _, _, _, _, _, _, _, _, _, _, _, _, _, _, _, _, rfl, rfl, by omega, .inl ⟨rfl, by rw [hst, hN]⟩⟩
    · have hA := killS_get hk k1
      have hB := killS_get hk k2
      have hC := killS_get hk k3
      have hbl1 : b.length ≤ 9223372036854775806 := by omega
      have hbl2 : b.length ≤ 140737488355327 := by omega
      rcases h1 with h | h | h | h | h | h | h | h
      · have e65 : ¬ (65 : Int) ≤ c.toNat := by omega
        have e90 : (c.toNat : Int) ≤ 90 := by omega
        have e97 : ¬ (97 : Int) ≤ c.toNat := by omega
        have e122 : (c.toNat : Int) ≤ 122 := by omega
        have e48 : ¬ (48 : Int) ≤ c.toNat := by omega
        have e57 : (c.toNat : Int) ≤ 57 := by omega
        have e32 : ¬ (c.toNat : Int) = 32 := by omega
        have ha : Kn.alnum c = false := by simp [Kn.alnum]; omega
        have hU : Kn.upper c = false := by simp [Kn.upper]; omega
        have hs32 : (c == 32) = false := by rw [beq_eq_false_iff_ne]; intro he; rw [he] at e32; exact e32 rfl
        have hN : Kn.nstep b c = b := by unfold Kn.nstep; simp [ha, hU, hs32]
        simp [-St.kill, kill_eq, killF_val, killF_sl, killF_nil, killF_row, get_ins, -getElem?_pos, hd, hc, hlt, hw, bp, e65, e90, e97, e122, e48, e57, e32, k1, k2, k3, hA, hB, hC, hk, hbl1, hbl2]
        exact ih _ _ (by omega) ⟨i + 1, _, _, _, _, _, _, _, _, _, _, _, _, _, _, _, _, _, _, _, _, _, _, _, _, _, _, _, _, _, _, _, _, _, _, _, _, _, _, _, _, _, _, _, _, _, _, _, _, _, _, _, _, _, _, _, _, _, _, _, _, _, _, _, _, _, _, rfl, rfl, by omega, .inr ⟨k, by rw [hst, hN], by rw [hst, hN]; exact hk, k1, k2, k3⟩⟩
      · have e65 : ¬ (65 : Int) ≤ c.toNat := by omega
        have e90 : (c.toNat : Int) ≤ 90 := by omega
        have e97 : ¬ (97 : Int) ≤ c.toNat := by omega
        have e122 : (c.toNat : Int) ≤ 122 := by omega
        have e48 : ¬ (48 : Int) ≤ c.toNat := by omega
        have e57 : (c.toNat : Int) ≤ 57 := by omega
        have e32 : (c.toNat : Int) = 32 := by omega
        have hc32 : c = 32 := by apply UInt8.toNat_inj.1; show c.toNat = 32; omega
        have ha : Kn.alnum c = false := by rw [hc32]; rfl
        have hU : Kn.upper c = false := by rw [hc32]; rfl
        by_cases hb0 : 0 < b.length
        · obtain ⟨p, hp⟩ : ∃ p, b[b.length - 1]? = some p := ⟨b[b.length - 1], by simp⟩
          have hwm : IntKind.i64.wrap ((b.length : Int) - 1) = ((b.length - 1 : Nat) : Int) := by rw [wrap_i64 (by omega) (by omega)]; omega
          have hne : b.isEmpty = false := by cases b with | nil => simp at hb0 | cons _ _ => rfl
          have hl32 : Kn.last32 b = decide (p = 32) := by unfold Kn.last32; rw [List.getLast?_eq_getElem?, hp]; by_cases hq : p = 32 <;> simp [hq]
          by_cases hp32 : (p.toNat : Int) = 32
          · have hpp : p = 32 := by apply UInt8.toNat_inj.1; show p.toNat = 32; omega
            have hN : Kn.nstep b c = b := by unfold Kn.nstep; simp [ha, hU, hl32, hpp]
            simp [-St.kill, kill_eq, killF_val, killF_sl, killF_nil, killF_row, get_ins, -getElem?_pos, hd, hc, hlt, hw, bp, e65, e90, e97, e122, e48, e57, e32, k1, k2, k3, hA, hB, hC, hk, hbl1, hbl2, hb0, hp, hwm, hp32, show b.length - 1 < b.length by omega]
            exact ih _ _ (by omega) ⟨i + 1, _, _, _, _, _, _, _, _, _, _, _, _, _, _, _, _, _, _, _, _, _, _, _, _, _, _, _, _, _, _, _, _, _, _, _, _, _, _, _, _, _, _, _, _, _, _, _, _, _, _, _, _, _, _, _, _, _, _, _, _, _, _, _, _, _, _, rfl, rfl, by omega, .inr ⟨k, by rw [hst, hN], by rw [hst, hN]; exact hk, k1, k2, k3⟩⟩
          · have hpp : p ≠ 32 := by rintro rfl; exact hp32 rfl
            have hN : Kn.nstep b c = b ++ [c] := by unfold Kn.nstep; simp [ha, hU, hl32, hpp, hne, show (c == 32) = true by rw [hc32]; rfl]
            simp [-St.kill, kill_eq, killF_val, killF_sl, killF_nil, killF_row, get_ins, -getElem?_pos, hd, hc, hlt, hw, bp, e65, e90, e97, e122, e48, e57, e32, k1, k2, k3, hA, hB, hC, hk, hbl1, hbl2, hb0, hp, hwm, hp32, show b.length - 1 < b.length by omega]
            refine ih _ _ (by omega) ⟨i + 1, _, _, _, _, _, _, _, _, _, _, _, _, _, _, _, _, _, _, _, _, _, _, _, _, _, _, _, _, _, _, _, _, _, _, _, _, _, _, _, _, _, _, _, _, _, _, _, _, _, _, _, _, _, _, _, _, _, _, _, _, _, _, _, _, _, _, rfl, rfl, by omega, .inr ⟨65, ?_, ?_, by decide, by decide, by decide⟩⟩
            · rw [hst, hN]; simp
            · rw [hst, hN, get_ins]; simp [bp, e32]
        · have hb1 : b = [] := List.eq_nil_of_length_eq_zero (by omega)
          have hN : Kn.nstep b c = b := by unfold Kn.nstep; simp [ha, hU, hb1]
          simp [-St.kill, kill_eq, killF_val, killF_sl, killF_nil, killF_row, get_ins, -getElem?_pos, hd, hc, hlt, hw, bp, e65, e90, e97, e122, e48, e57, e32, k1, k2, k3, hA, hB, hC, hk, hbl1, hbl2, hb0]
          exact ih _ _ (by omega) ⟨i + 1, _, _, _, _, _, _, _, _, _, _, _, _, _, _, _, _, _, _, _, _, _, _, _, _, _, _, _, _, _, _, _, _, _, _, _, _, _, _, _, _, _, _, _, _, _, _, _, _, _, _, _, _, _, _, _, _, _, _, _, _, _, _, _, _, _, _, rfl, rfl, by omega, .inr ⟨k, by rw [hst, hN], by rw [hst, hN]; exact hk, k1, k2, k3⟩⟩
      · have e65 : ¬ (65 : Int) ≤ c.toNat := by omega
        have e90 : (c.toNat : Int) ≤ 90 := by omega
        have e97 : ¬ (97 : Int) ≤ c.toNat := by omega
        have e122 : (c.toNat : Int) ≤ 122 := by omega
        have e48 : (48 : Int) ≤ c.toNat := by omega
        have e57 : (c.toNat : Int) ≤ 57 := by omega
        have e32 : ¬ (c.toNat : Int) = 32 := by omega
        have ha : Kn.alnum c = true := by simp [Kn.alnum]; omega
        have hN : Kn.nstep b c = b ++ [c] := by unfold Kn.nstep; rw [if_neg (by rw [Kn.alnum_upper ha]; simp), if_pos ha]
        simp [-St.kill, kill_eq, killF_val, killF_sl, killF_nil, killF_row, get_ins, -getElem?_pos, hd, hc, hlt, hw, bp, e65, e90, e97, e122, e48, e57, e32, k1, k2, k3, hA, hB, hC, hk, hbl1, hbl2]
        refine ih _ _ (by omega) ⟨i + 1, _, _, _, _, _, _, _, _, _, _, _, _, _, _, _, _, _, _, _, _, _, _, _, _, _, _, _, _, _, _, _, _, _, _, _, _, _, _, _, _, _, _, _, _, _, _, _, _, _, _, _, _, _, _, _, _, _, _, _, _, _, _, _, _, _, _, rfl, rfl, by omega, .inr ⟨44, ?_, ?_, by decide, by decide, by decide⟩⟩
        · rw [hst, hN]; simp
        · rw [hst, hN, get_ins]; simp [bp]
      · have e65 : ¬ (65 : Int) ≤ c.toNat := by omega
        have e90 : (c.toNat : Int) ≤ 90 := by omega
        have e97 : ¬ (97 : Int) ≤ c.toNat := by omega
        have e122 : (c.toNat : Int) ≤ 122 := by omega
        have e48 : (48 : Int) ≤ c.toNat := by omega
        have e57 : ¬ (c.toNat : Int) ≤ 57 := by omega
        have e32 : ¬ (c.toNat : Int) = 32 := by omega
        have ha : Kn.alnum c = false := by simp [Kn.alnum]; omega
        have hU : Kn.upper c = false := by simp [Kn.upper]; omega
        have hs32 : (c == 32) = false := by rw [beq_eq_false_iff_ne]; intro he; rw [he] at e32; exact e32 rfl
        have hN : Kn.nstep b c = b := by unfold Kn.nstep; simp [ha, hU, hs32]
        simp [-St.kill, kill_eq, killF_val, killF_sl, killF_nil, killF_row, get_ins, -getElem?_pos, hd, hc, hlt, hw, bp, e65, e90, e97, e122, e48, e57, e32, k1, k2, k3, hA, hB, hC, hk, hbl1, hbl2]
        exact ih _ _ (by omega) ⟨i + 1, _, _, _, _, _, _, _, _, _, _, _, _, _, _, _, _, _, _, _, _, _, _, _, _, _, _, _, _, _, _, _, _, _, _, _, _, _, _, _, _, _, _, _, _, _, _, _, _, _, _, _, _, _, _, _, _, _, _, _, _, _, _, _, _, _, _, rfl, rfl, by omega, .inr ⟨k, by rw [hst, hN], by rw [hst, hN]; exact hk, k1, k2, k3⟩⟩
      · have e65 : (65 : Int) ≤ c.toNat := by omega
        have e90 : (c.toNat : Int) ≤ 90 := by omega
        have e97 : ¬ (97 : Int) ≤ c.toNat := by omega
        have e122 : (c.toNat : Int) ≤ 122 := by omega
        have e48 : (48 : Int) ≤ c.toNat := by omega
        have e57 : ¬ (c.toNat : Int) ≤ 57 := by omega
        have e32 : ¬ (c.toNat : Int) = 32 := by omega
        have hU : Kn.upper c = true := by simp [Kn.upper]; omega
        have hN : Kn.nstep b c = b ++ [c + 32] := by unfold Kn.nstep; rw [if_pos hU]
        have hv1 : IntKind.u8.wrap ((c.toNat : Int) - 65) = c.toNat - 65 := wrap_u8 (by omega) (by omega)
        have hv2 : IntKind.u8.wrap ((c.toNat : Int) - 65 + 97) = (c.toNat : Int) + 32 := by rw [wrap_u8 (by omega) (by omega)]; omega
        have hv3 := Kn.upper_add hU
        simp [-St.kill, kill_eq, killF_val, killF_sl, killF_nil, killF_row, get_ins, -getElem?_pos, hd, hc, hlt, hw, bp, e65, e90, e97, e122, e48, e57, e32, k1, k2, k3, hA, hB, hC, hk, hbl1, hbl2, hv1, hv2]
        refine ih _ _ (by omega) ⟨i + 1, _, _, _, _, _, _, _, _, _, _, _, _, _, _, _, _, _, _, _, _, _, _, _, _, _, _, _, _, _, _, _, _, _, _, _, _, _, _, _, _, _, _, _, _, _, _, _, _, _, _, _, _, _, _, _, _, _, _, _, _, _, _, _, _, _, _, rfl, rfl, by omega, .inr ⟨25, ?_, ?_, by decide, by decide, by decide⟩⟩
        · rw [hst, hN]; simp
        · rw [hst, hN, get_ins, List.map_append]; simp only [List.map_cons, List.map_nil, bp, hv3]; simp [bp]
      · have e65 : (65 : Int) ≤ c.toNat := by omega
        have e90 : ¬ (c.toNat : Int) ≤ 90 := by omega
        have e97 : ¬ (97 : Int) ≤ c.toNat := by omega
        have e122 : (c.toNat : Int) ≤ 122 := by omega
        have e48 : (48 : Int) ≤ c.toNat := by omega
        have e57 : ¬ (c.toNat : Int) ≤ 57 := by omega
        have e32 : ¬ (c.toNat : Int) = 32 := by omega
        have ha : Kn.alnum c = false := by simp [Kn.alnum]; omega
        have hU : Kn.upper c = false := by simp [Kn.upper]; omega
        have hs32 : (c == 32) = false := by rw [beq_eq_false_iff_ne]; intro he; rw [he] at e32; exact e32 rfl
        have hN : Kn.nstep b c = b := by unfold Kn.nstep; simp [ha, hU, hs32]
        simp [-St.kill, kill_eq, killF_val, killF_sl, killF_nil, killF_row, get_ins, -getElem?_pos, hd, hc, hlt, hw, bp, e65, e90, e97, e122, e48, e57, e32, k1, k2, k3, hA, hB, hC, hk, hbl1, hbl2]
        exact ih _ _ (by omega) ⟨i + 1, _, _, _, _, _, _, _, _, _, _, _, _, _, _, _, _, _, _, _, _, _, _, _, _, _, _, _, _, _, _, _, _, _, _, _, _, _, _, _, _, _, _, _, _, _, _, _, _, _, _, _, _, _, _, _, _, _, _, _, _, _, _, _, _, _, _, rfl, rfl, by omega, .inr ⟨k, by rw [hst, hN], by rw [hst, hN]; exact hk, k1, k2, k3⟩⟩
      · have e65 : (65 : Int) ≤ c.toNat := by omega
        have e90 : ¬ (c.toNat : Int) ≤ 90 := by omega
        have e97 : (97 : Int) ≤ c.toNat := by omega
        have e122 : (c.toNat : Int) ≤ 122 := by omega
        have e48 : (48 : Int) ≤ c.toNat := by omega
        have e57 : ¬ (c.toNat : Int) ≤ 57 := by omega
        have e32 : ¬ (c.toNat : Int) = 32 := by omega
        have ha : Kn.alnum c = true := by simp [Kn.alnum]; omega
        have hN : Kn.nstep b c = b ++ [c] := by unfold Kn.nstep; rw [if_neg (by rw [Kn.alnum_upper ha]; simp), if_pos ha]
        simp [-St.kill, kill_eq, killF_val, killF_sl, killF_nil, killF_row, get_ins, -getElem?_pos, hd, hc, hlt, hw, bp, e65, e90, e97, e122, e48, e57, e32, k1, k2, k3, hA, hB, hC, hk, hbl1, hbl2]
        refine ih _ _ (by omega) ⟨i + 1, _, _, _, _, _, _, _, _, _, _, _, _, _, _, _, _, _, _, _, _, _, _, _, _, _, _, _, _, _, _, _, _, _, _, _, _, _, _, _, _, _, _, _, _, _, _, _, _, _, _, _, _, _, _, _, _, _, _, _, _, _, _, _, _, _, _, rfl, rfl, by omega, .inr ⟨44, ?_, ?_, by decide, by decide, by decide⟩⟩
        · rw [hst, hN]; simp
        · rw [hst, hN, get_ins]; simp [bp]
      · have e65 : (65 : Int) ≤ c.toNat := by omega
        have e90 : ¬ (c.toNat : Int) ≤ 90 := by omega
        have e97 : (97 : Int) ≤ c.toNat := by omega
        have e122 : ¬ (c.toNat : Int) ≤ 122 := by omega
        have e48 : (48 : Int) ≤ c.toNat := by omega
        have e57 : ¬ (c.toNat : Int) ≤ 57 := by omega
        have e32 : ¬ (c.toNat : Int) = 32 := by omega
        have ha : Kn.alnum c = false := by simp [Kn.alnum]; omega
        have hU : Kn.upper c = false := by simp [Kn.upper]; omega
        have hs32 : (c == 32) = false := by rw [beq_eq_false_iff_ne]; intro he; rw [he] at e32; exact e32 rfl
        have hN : Kn.nstep b c = b := by unfold Kn.nstep; simp [ha, hU, hs32]
        simp [-St.kill, kill_eq, killF_val, killF_sl, killF_nil, killF_row, get_ins, -getElem?_pos, hd, hc, hlt, hw, bp, e65, e90, e97, e122, e48, e57, e32, k1, k2, k3, hA, hB, hC, hk, hbl1, hbl2]
        exact ih _ _ (by omega) ⟨i + 1, _, _, _, _, _, _, _, _, _, _, _, _, _, _, _, _, _, _, _, _, _, _, _, _, _, _, _, _, _, _, _, _, _, _, _, _, _, _, _, _, _, _, _, _, _, _, _, _, _, _, _, _, _, _, _, _, _, _, _, _, _, _, _, _, _, _, rfl, rfl, by omega, .inr ⟨k, by rw [hst, hN], by rw [hst, hN]; exact hk, k1, k2, k3⟩⟩
  · obtain rfl : i = l.length := by omega
    rw [List.take_length] at hbe
    have htr := trim_ev n ⟨b.toArray⟩ b (by simp) (by show b.toArray.size ≤ _; simp; omega)
    simp only [strP] at htr
    have hno : Kn.normal l = Kn.trim b := by unfold Kn.normal; rw [hbe]
    rw [hno]
    rcases hb with ⟨rfl, rfl⟩ | ⟨k, rfl, hk, _⟩
    · simp [strOf, htr]
    · have htk : List.take b.length (b.map bp) = b.map bp := List.take_of_length_le (by simp)
      simp [hk, htk, strOf_bp, htr]
end Go.Proofs.YtlhjljplfmmoaaaGreatDoor.Ev
