/- decimal.Print: what it computes. -/
import Derived.Test.YtlhjljplfmmoaaaGreatDoorND
namespace Go.Proofs.YtlhjljplfmmoaaaGreatDoor.Ev
open Go
set_option linter.unusedSimpArgs false
set_option linter.unusedVariables false
set_option maxRecDepth 10000
set_option maxHeartbeats 4000000
open Nb
def padT (p : Nat) (s : List UInt8) : List UInt8 := if s.length ≤ p then List.replicate (p + 1 - s.length) 48 ++ s else s
def sgnL (neg : Bool) (m : Nat) : List UInt8 := if m = 0 then [] else if neg = true then [45] else []
def printD (neg : Bool) (m p : Nat) : List UInt8 :=
  sgnL neg m ++ (padT p (Lib.decDigits m)).take ((padT p (Lib.decDigits m)).length - p) ++ [46] ++ (padT p (Lib.decDigits m)).drop ((padT p (Lib.decDigits m)).length - p)
def decP (neg : Bool) (m : Nat) (p : Int) : PV := .agg [.val (.bool neg), .sl (lim (ofN m)), .val (.int .i64 p)]
theorem sz_dec : sizeT Tryz.prog 67 = some 3 := by kernel_rfl
theorem ze_dec : zeroT Tryz.prog 67 = some (.agg [.val (.bool false), .nil, .val (.int .i64 0)]) := by kernel_rfl
theorem repeatL_one (c : UInt8) : ∀ k, Lib.repeatL [c] k = List.replicate k c
  | 0 => rfl
  | k + 1 => by rw [Lib.repeatL, repeatL_one c k, List.replicate_succ]; rfl
theorem repeat_g (n k : Nat) (h : k ≤ 140737488355328) :
    (ev Tryz.prog tab (n + 1)).callA 74 [.val (.string ⟨#[48]⟩), .val (.int .i64 k)] = some [strL (List.replicate k 48)] := by
  rw [callG n (g := gRepeat) (by kernel_rfl)]
  show (if k ≤ 9223372036854775807 ∧ (ByteArray.mk #[48]).size * k ≤ 140737488355328 then some [strL (Lib.repeatL (ByteArray.mk #[48]).data.toList k)] else none) = _
  have h1 : (ByteArray.mk #[48]).size = 1 := rfl
  rw [if_pos ⟨by omega, by rw [h1]; omega⟩]
  rw [← repeatL_one]
theorem padT_len (p : Nat) (s : List UInt8) : p < (padT p s).length := by
  unfold padT
  split
  · rw [List.length_append, List.length_replicate]; omega
  · omega
theorem decPrint_n (n : Nat) (neg : Bool) (m p : Nat) (hp : 1 ≤ p) (hp9 : p ≤ 9) (hm : (ofN m).length ≤ 1000000000) (hD : (Lib.decDigits m).length ≤ 140737488355000) (hn : 2 * (ofN m).length + 10 ≤ n) :
    (ev Tryz.prog tab (n + 4)).callA 44 [decP neg m p] = some [strL (printD neg m p), intP 0] := by
  have hq : ∀ z : Int, intP z = .val (.int .i64 z) := fun _ => rfl
  have hS : ∀ m, strL m = .val (.string ⟨m.toArray⟩) := fun _ => rfl
  have hs := sign_n n neg (ofN m) (LB_ofN m) (by omega) (by omega)
  have hpr := print_n n (ofN m) (LB_ofN m) (by omega) (by omega)
  rw [val_ofN] at hs hpr
  simp only [zL, hq, strP] at hs hpr
  have p0 : ¬ (p : Int) < 0 := by omega
  have p9 : ¬ (9 : Int) < (p : Int) := by omega
  have p1 : ¬ (p : Int) = 0 := by omega
  have p1' : ¬ p = 0 := by omega
  obtain ⟨D, hDe⟩ : ∃ D, D = Lib.decDigits m := ⟨_, rfl⟩
  unfold printD
  rw [← hDe] at hpr hD ⊢
  obtain ⟨G, hG⟩ : ∃ G, G = sgnL neg m := ⟨_, rfl⟩
  rw [← hG]
  obtain ⟨Q, hQ⟩ : ∃ Q, Q = padT p D := ⟨_, rfl⟩
  rw [← hQ]
  have hGl : G.length ≤ 1 := by rw [hG]; unfold sgnL; split <;> first | (split <;> simp) | simp
  have hQp : p < Q.length := by rw [hQ]; exact padT_len p D
  have hQl : Q.length ≤ D.length + 10 := by
    rw [hQ]; unfold padT
    split
    · rw [List.length_append, List.length_replicate]; omega
    · omega
  have hsg : (signZ neg m < 0 ∧ G = [45]) ∨ (¬ signZ neg m < 0 ∧ G = []) := by
    rw [hG]; unfold signZ sgnL
    by_cases h0 : m = 0
    · right; simp [h0]
    · cases neg
      · right; simp [h0]
      · left; simp [h0]
  obtain ⟨at', hat⟩ : ∃ at', at' = Q.length - p := ⟨_, rfl⟩
  rw [← hat]
  have w1 : IntKind.i64.wrap ((Q.length : Int) - (p : Int)) = (at' : Int) := by rw [wrap_i64 (by omega) (by omega)]; omega
  have atQ : (at' : Int) ≤ (Q.length : Int) := by omega
  have at0 : (0 : Int) ≤ (at' : Int) := by omega
  obtain ⟨sg, hsgn⟩ : ∃ sg, sg = signZ neg m := ⟨_, rfl⟩
  rw [← hsgn] at hs hsg
  obtain ⟨W, hW⟩ : ∃ W, W = Q.take at' := ⟨_, rfl⟩
  obtain ⟨Pt, hPt⟩ : ∃ Pt, Pt = Q.drop at' := ⟨_, rfl⟩
  rw [← hW, ← hPt]
  have hWl : W.length ≤ Q.length := by rw [hW, List.length_take]; omega
  have hPl : Pt.length ≤ Q.length := by rw [hPt, List.length_drop]; omega
  have c1 : (ByteArray.mk Q.toArray).extract 0 at' = ByteArray.mk W.toArray := by rw [ba_cut, hW]; simp
  have c2 : (ByteArray.mk Q.toArray).extract at' Q.length = ByteArray.mk Pt.toArray := by rw [ba_cut, hPt]; simp
  obtain ⟨GW, hGW⟩ : ∃ GW, GW = G ++ W := ⟨_, rfl⟩
  obtain ⟨GD, hGD⟩ : ∃ GD, GD = GW ++ [46] := ⟨_, rfl⟩
  obtain ⟨Z, hZ⟩ : ∃ Z, Z = GD ++ Pt := ⟨_, rfl⟩
  have hZe : G ++ W ++ [46] ++ Pt = Z := by rw [hZ, hGD, hGW]
  rw [hZe]
  have a2 : ByteArray.mk GW.toArray ++ ByteArray.mk #[46] = ByteArray.mk GD.toArray := by rw [hGD]; exact ba_app GW [46]
  have a3 : ByteArray.mk GD.toArray ++ ByteArray.mk Pt.toArray = ByteArray.mk Z.toArray := by rw [hZ]; exact ba_app GD Pt
  have z46 : (ByteArray.mk #[46]).size = 1 := rfl
  have lGW : GW.length = G.length + W.length := by rw [hGW, List.length_append]
  have lGD : GD.length = GW.length + 1 := by rw [hGD, List.length_append]; rfl
  have s2 : GW.length + 1 ≤ 9223372036854775807 := by omega
  have s3 : GD.length + Pt.length ≤ 9223372036854775807 := by omega
  have s2' : GW.length ≤ 9223372036854775806 := by omega
  rw [callA_fn rfl Tryz.func44 rfl rfl rfl]
  rcases hsg with ⟨hsg, hGe⟩ | ⟨hsg, hGe⟩
  · have a1 : ByteArray.mk #[45] ++ ByteArray.mk W.toArray = ByteArray.mk GW.toArray := by rw [hGW, hGe]; exact ba_app [45] W
    have z45 : (ByteArray.mk #[45]).size = 1 := rfl
    have s1 : 1 + W.length ≤ 9223372036854775807 := by omega
    by_cases hlen : D.length ≤ p
    · have hlen' : (D.length : Int) ≤ (p : Int) := by omega
      obtain ⟨k, hk⟩ : ∃ k, k = p + 1 - D.length := ⟨_, rfl⟩
      obtain ⟨R, hR⟩ : ∃ R, R = List.replicate k (48 : UInt8) := ⟨_, rfl⟩
      have hQe : Q = R ++ D := by rw [hQ, hR, hk]; unfold padT; rw [if_pos hlen]
      have a0 : ByteArray.mk R.toArray ++ ByteArray.mk D.toArray = ByteArray.mk Q.toArray := by rw [hQe]; exact ba_app R D
      have w2 : IntKind.i64.wrap ((p : Int) + 1) = (p : Int) + 1 := wrap_i64 (by omega) (by omega)
      have w3 : IntKind.i64.wrap ((p : Int) + 1 - (D.length : Int)) = (k : Int) := by rw [wrap_i64 (by omega) (by omega)]; omega
      have hr := repeat_g (n + 2) k (by omega)
      rw [← hR] at hr
      simp only [hS] at hr
      have hkD : R.length + D.length ≤ 9223372036854775807 := by rw [hR, List.length_replicate]; omega
      simp [-frame, -getElem?_pos, -step_some, stepN, Tryz.f44, decP, hq, hS, hs, hpr, p0, p9, p1, p1', hsg, sz_dec, sz_int, sz_nat, Tryz.underlying67, Tryz.underlying64, ba_size, hlen, hlen', w1, w2, w3, hr, a0, hkD]
      refine (drawK_of (by kernel_rfl)).trans ?_
      simp [-frame, -getElem?_pos, -step_some, stepN, -stepD_some, stepDN, evOpD, ba_size, w1, at0, atQ, c1, c2, a1, a2, a3, z45, z46, s1, s2, s2', s3, sz_dec, sz_int, sz_nat, Tryz.underlying67, Tryz.underlying64]
    · have hlen' : ¬ (D.length : Int) ≤ (p : Int) := by omega
      have hQD : Q = D := by rw [hQ]; unfold padT; rw [if_neg hlen]
      subst hQD
      simp [-frame, -getElem?_pos, -step_some, stepN, Tryz.f44, decP, hq, hS, hs, hpr, p0, p9, p1, p1', hsg, sz_dec, sz_int, sz_nat, Tryz.underlying67, Tryz.underlying64, ba_size, hlen, hlen', w1]
      refine (drawK_of (by kernel_rfl)).trans ?_
      simp [-frame, -getElem?_pos, -step_some, stepN, -stepD_some, stepDN, evOpD, ba_size, w1, at0, atQ, c1, c2, a1, a2, a3, z45, z46, s1, s2, s2', s3, sz_dec, sz_int, sz_nat, Tryz.underlying67, Tryz.underlying64]
  · have a1 : ByteArray.mk #[] ++ ByteArray.mk W.toArray = ByteArray.mk GW.toArray := by rw [hGW, hGe]; exact ba_app [] W
    have z45 : (ByteArray.mk #[]).size = 0 := rfl
    have s1 : W.length ≤ 9223372036854775807 := by omega
    by_cases hlen : D.length ≤ p
    · have hlen' : (D.length : Int) ≤ (p : Int) := by omega
      obtain ⟨k, hk⟩ : ∃ k, k = p + 1 - D.length := ⟨_, rfl⟩
      obtain ⟨R, hR⟩ : ∃ R, R = List.replicate k (48 : UInt8) := ⟨_, rfl⟩
      have hQe : Q = R ++ D := by rw [hQ, hR, hk]; unfold padT; rw [if_pos hlen]
      have a0 : ByteArray.mk R.toArray ++ ByteArray.mk D.toArray = ByteArray.mk Q.toArray := by rw [hQe]; exact ba_app R D
      have w2 : IntKind.i64.wrap ((p : Int) + 1) = (p : Int) + 1 := wrap_i64 (by omega) (by omega)
      have w3 : IntKind.i64.wrap ((p : Int) + 1 - (D.length : Int)) = (k : Int) := by rw [wrap_i64 (by omega) (by omega)]; omega
      have hr := repeat_g (n + 2) k (by omega)
      rw [← hR] at hr
      simp only [hS] at hr
      have hkD : R.length + D.length ≤ 9223372036854775807 := by rw [hR, List.length_replicate]; omega
      simp [-frame, -getElem?_pos, -step_some, stepN, Tryz.f44, decP, hq, hS, hs, hpr, p0, p9, p1, p1', hsg, sz_dec, sz_int, sz_nat, Tryz.underlying67, Tryz.underlying64, ba_size, hlen, hlen', w1, w2, w3, hr, a0, hkD]
      refine (drawK_of (by kernel_rfl)).trans ?_
      simp [-frame, -getElem?_pos, -step_some, stepN, -stepD_some, stepDN, evOpD, ba_size, w1, at0, atQ, c1, c2, a1, a2, a3, z45, z46, s1, s2, s2', s3, sz_dec, sz_int, sz_nat, Tryz.underlying67, Tryz.underlying64]
    · have hlen' : ¬ (D.length : Int) ≤ (p : Int) := by omega
      have hQD : Q = D := by rw [hQ]; unfold padT; rw [if_neg hlen]
      subst hQD
      simp [-frame, -getElem?_pos, -step_some, stepN, Tryz.f44, decP, hq, hS, hs, hpr, p0, p9, p1, p1', hsg, sz_dec, sz_int, sz_nat, Tryz.underlying67, Tryz.underlying64, ba_size, hlen, hlen', w1]
      refine (drawK_of (by kernel_rfl)).trans ?_
      simp [-frame, -getElem?_pos, -step_some, stepN, -stepD_some, stepDN, evOpD, ba_size, w1, at0, atQ, c1, c2, a1, a2, a3, z45, z46, s1, s2, s2', s3, sz_dec, sz_int, sz_nat, Tryz.underlying67, Tryz.underlying64]
end Go.Proofs.YtlhjljplfmmoaaaGreatDoor.Ev
