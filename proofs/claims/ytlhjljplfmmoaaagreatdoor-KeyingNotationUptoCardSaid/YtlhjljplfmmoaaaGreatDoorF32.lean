/- keying.choices: what it computes. -/
import Derived.Test.YtlhjljplfmmoaaaGreatDoorF31
namespace Go.Proofs.YtlhjljplfmmoaaaGreatDoor.Ev
open Go
set_option linter.unusedSimpArgs false
set_option linter.unusedVariables false
set_option maxRecDepth 10000
set_option maxHeartbeats 4000000
def inB (n : Nat) (c : Int) : Bool := !decide (c < 0) && !decide ((n : Int) ≤ c)
def upAt (l : List Int) (i : Nat) : Bool := decide (i = 0) || match l[i]?, l[i - 1]? with
  | some x, some y => decide (y < x)
  | _, _ => true
def upB (l : List Int) : Bool := (List.range l.length).all (upAt l)
def seenF (l : List Int) (s : List Bool) : List Bool := l.foldl (fun s c => s.set c.toNat true) s
def rightB (kind : Int) (n : Nat) (l : List Int) : Bool :=
  if kind = 1 then decide (l.length = 1) else if kind = 2 then upB l
  else if kind = 3 then decide (l.length = n) && !(seenF l (List.replicate n false)).any (fun x => !x) else true
def choicesI (kind : Int) (n : Nat) (l : List Int) : Int := if l.all (inB n) = true then (if rightB kind n l = true then 0 else 23) else 3
theorem seenF_length : ∀ (l : List Int) (s : List Bool), (seenF l s).length = s.length
  | [], _ => rfl
  | c :: t, s => by
    show (seenF t (s.set c.toNat true)).length = _
    rw [seenF_length t]
    simp
attribute [local simp] mkPV putPV rowO
theorem choices_ev (n : Nat) (it : It) (l : List Int) (hl : l.length ≤ 9223372036854775806) (hln : l.length ≤ n) (ho : it.opts.length ≤ 10) (hn : 10 ≤ n) :
    (ev Tryz.prog tab (n + 3)).callA 33 [it.pv, .sl (l.map intP)] = some [intP (choicesI it.kind it.opts.length l)] := by
  obtain ⟨id, ver, kind, stem, opts, choices, val, tol, texts, pts, cont, fam, set, words, secs, assets, rub⟩ := it
  simp only at ho
  have hq : ∀ z : Int, intP z = .val (.int .i64 z) := fun _ => rfl
  rw [callA_fn rfl Tryz.func33 rfl rfl rfl]
  simp [-frame, Tryz.f33, It.pv, hq]
  refine loop_rule (fun d st => ∃ (i : Nat) (a : List (Nat × TV)), st = { tm := frameOf 83 a, sus := [], so := [(2, .box [TV.val (.int .i64 id), TV.val (.int .i64 ver), .val (.int .i64 kind), .val (.string stem), .sl (opts.map strP), .sl (choices.map intP), .val (.int .i64 val), .val (.int .i64 tol), .sl (texts.map strP), .val (.int .i64 pts), .val (.string cont), .val (.int .i64 fam), .val (.int .i64 set), .val (.int .i64 words), .val (.int .i64 secs), .sl (assets.map intP), .val (.int .i64 rub)])] } ∧ look a 2 = .ptr 2 0 0 ∧ look a 1 = .sl (l.map intP) ∧ look a 5 = .val (.int .i64 opts.length) ∧ look a 16 = .sl (l.map intP) ∧ look a 17 = .val (.int .i64 l.length) ∧ look a 18 = .val (.int .i64 i) ∧ d = l.length - i ∧ i ≤ l.length ∧ (l.take i).all (inB opts.length) = true) ?_ _ l.length _ (by omega) ⟨0, _, rfl, by simp, by simp, by simp, by simp, by simp, by simp, rfl, by omega, by simp⟩
  rintro d st m ⟨i, a, rfl, h2, h1, h5, h16, h17, h18, rfl, hi, hall⟩ ih
  by_cases hlt : i < l.length
  · obtain ⟨z, hc⟩ : ∃ z, l[i]? = some z := ⟨l[i], by simp⟩
    have hw := wrap_succ hlt (by omega)
    have hd : decide ((i : Int) < l.length) = true := by simp [hlt]
    have hno : inB opts.length z = false → choicesI kind opts.length l = 3 := fun h => by unfold choicesI; rw [all_not hc h]; rfl
    by_cases g1 : z < 0
    · simp [-frame, -getElem?_pos, h2, h1, h5, h16, h17, h18, hd, hc, hlt, hw, hq, g1]
      exact (hno (by simp [inB, g1])).symm
    · by_cases g2 : (opts.length : Int) ≤ z
      · simp [-frame, -getElem?_pos, h2, h1, h5, h16, h17, h18, hd, hc, hlt, hw, hq, g1, g2]
        exact (hno (by simp [inB, g2])).symm
      · simp [-frame, -getElem?_pos, h2, h1, h5, h16, h17, h18, hd, hc, hlt, hw, hq, g1, g2]
        exact ih _ _ (by omega) ⟨i + 1, _, rfl, by simp [h2], by simp [h1], by simp [h5], by simp [h16], by simp [h17], by simp, rfl, by omega, all_take hall hc (by simp [inB, g1]; omega)⟩
  · obtain rfl : i = l.length := by omega
    clear ih
    rw [List.take_length] at hall
    have hch : choicesI kind opts.length l = if rightB kind opts.length l = true then 0 else 23 := by unfold choicesI; rw [if_pos hall]
    rw [hch]
    by_cases k1 : kind = 1
    · subst k1
      by_cases hr : (l.length : Int) = 1
      · have : rightB 1 opts.length l = true := by simp [rightB]; omega
        simp [-frame, h2, h1, h5, h16, h17, h18, hr, this]
      · have : rightB 1 opts.length l = false := by simp [rightB]; omega
        simp [-frame, h2, h1, h5, h16, h17, h18, hr, this]
    by_cases k2 : kind = 2
    · subst k2
      have hrb : rightB 2 opts.length l = upB l := by simp [rightB]
      rw [hrb]
      simp [-frame, h2, h1, h5, h16, h17, h18]
      refine loop_rule (fun d st => ∃ (i : Nat) (a : List (Nat × TV)), st = { tm := frameOf 83 a, sus := [], so := [(2, .box [TV.val (.int .i64 id), TV.val (.int .i64 ver), .val (.int .i64 2), .val (.string stem), .sl (opts.map strP), .sl (choices.map intP), .val (.int .i64 val), .val (.int .i64 tol), .sl (texts.map strP), .val (.int .i64 pts), .val (.string cont), .val (.int .i64 fam), .val (.int .i64 set), .val (.int .i64 words), .val (.int .i64 secs), .sl (assets.map intP), .val (.int .i64 rub)])] } ∧ look a 1 = .sl (l.map intP) ∧ look a 9 = .val (.int .i64 i) ∧ look a 8 = .val (.bool ((List.range i).all (upAt l))) ∧ d = l.length + 1 - i ∧ 1 ≤ i ∧ (i ≤ l.length ∨ i = 1)) ?_ _ l.length _ (by omega) ⟨1, _, rfl, by simp [h1], by simp, by simp [upAt], by omega, by omega, by omega⟩
      clear h2 h1 h5 h16 h17 h18
      rintro d st m ⟨i, a, rfl, h1, h9, h8, rfl, hi1, hi2⟩ ih
      by_cases hlt : i < l.length
      · obtain ⟨x, hx⟩ : ∃ x, l[i]? = some x := ⟨l[i], by simp⟩
        obtain ⟨y, hy⟩ : ∃ y, l[i - 1]? = some y := ⟨l[i - 1], by simp⟩
        have hw := wrap_succ hlt (by omega)
        have hwm : IntKind.i64.wrap ((i : Int) - 1) = ((i - 1 : Nat) : Int) := by rw [wrap_i64 (by omega) (by omega)]; omega
        have hlm : i - 1 < l.length := by omega
        have hup : (List.range (i + 1)).all (upAt l) = ((List.range i).all (upAt l) && decide (y < x)) := by
          rw [List.range_succ, List.all_append]
          simp only [List.all_cons, List.all_nil, Bool.and_true]
          congr 1
          unfold upAt
          rw [hx, hy]
          simp; omega
        cases hb : (List.range i).all (upAt l) with
        | true =>
          rw [hb] at h8 hup
          by_cases hxy : y < x
          · simp [-frame, -getElem?_pos, h1, h9, h8, hlt]
            refine (drawK_of (by kernel_rfl)).trans ?_
            simp [-frame, -getElem?_pos, evOpD, h1, h9, h8, hlt, hx, hy, hw, hwm, hlm, hxy, hq]
            exact ih _ _ (by omega) ⟨i + 1, _, rfl, by simp [h1], by simp, by simp [hup, hxy], rfl, by omega, by omega⟩
          · simp [-frame, -getElem?_pos, h1, h9, h8, hlt]
            refine (drawK_of (by kernel_rfl)).trans ?_
            simp [-frame, -getElem?_pos, evOpD, h1, h9, h8, hlt, hx, hy, hw, hwm, hlm, hxy, hq]
            exact ih _ _ (by omega) ⟨i + 1, _, rfl, by simp [h1], by simp, by simp [hup, hxy], rfl, by omega, by omega⟩
        | false =>
          rw [hb] at h8 hup
          simp [-frame, -getElem?_pos, h1, h9, h8, hlt]
          refine (drawK_of (by kernel_rfl)).trans ?_
          simp [-frame, -getElem?_pos, evOpD, h1, h9, h8, hlt, hw, hq]
          exact ih _ _ (by omega) ⟨i + 1, _, rfl, by simp [h1], by simp, by simp [hup], rfl, by omega, by omega⟩
      · have hub : upB l = (List.range i).all (upAt l) := by
          unfold upB
          by_cases h0 : l.length = 0
          · have : i = 1 := by omega
            rw [h0, this]
            simp [upAt]
          · rw [show l.length = i by omega]
        rw [hub]
        cases hb : (List.range i).all (upAt l) with
        | true =>
          rw [hb] at h8
          simp [-frame, h1, h9, h8, hlt]
        | false =>
          rw [hb] at h8
          simp [-frame, h1, h9, h8, hlt]
    by_cases k3 : kind = 3
    · subst k3
      have hin : ∀ (i : Nat) z, l[i]? = some z → 0 ≤ z ∧ z < opts.length := fun i z hz => by
        have := List.all_eq_true.1 hall z (List.mem_of_getElem? hz)
        simp [inB] at this
        omega
      have hbq : ∀ b : Bool, boolP b = .val (.bool b) := fun _ => rfl
      simp [-frame, h2, h1, h5, h16, h17, h18, show (opts.length : Int) ≤ 9223372036854775807 by omega, show (opts.length : Int) ≤ 281474976710656 by omega]
      refine loop_rule (fun d st => ∃ (i : Nat) (s : List Bool) (a : List (Nat × TV)), st = { tm := frameOf 83 a, sus := [], so := [(2, .box [TV.val (.int .i64 id), TV.val (.int .i64 ver), .val (.int .i64 3), .val (.string stem), .sl (opts.map strP), .sl (choices.map intP), .val (.int .i64 val), .val (.int .i64 tol), .sl (texts.map strP), .val (.int .i64 pts), .val (.string cont), .val (.int .i64 fam), .val (.int .i64 set), .val (.int .i64 words), .val (.int .i64 secs), .sl (assets.map intP), .val (.int .i64 rub)]), (61, .row 4 (s.map boolP))] } ∧ look a 1 = .sl (l.map intP) ∧ look a 5 = .val (.int .i64 opts.length) ∧ look a 10 = .row 61 0 opts.length ∧ look a 62 = .sl (l.map intP) ∧ look a 63 = .val (.int .i64 l.length) ∧ look a 64 = .val (.int .i64 i) ∧ d = l.length - i ∧ i ≤ l.length ∧ s = seenF (l.take i) (List.replicate opts.length false)) ?_ _ l.length _ (by omega) ⟨0, List.replicate opts.length false, _, by rw [List.map_replicate]; rfl, by simp [h1], by simp [h5], by simp, by simp, by simp, by simp, rfl, by omega, by simp [seenF]⟩
      clear h2 h1 h5 h16 h17 h18
      rintro d st m ⟨i, s, a, rfl, h1, h5, h10, h62, h63, h64, rfl, hi, hs⟩ ih
      have hsl : s.length = opts.length := by rw [hs, seenF_length]; simp
      by_cases hlt : i < l.length
      · obtain ⟨z, hc⟩ : ∃ z, l[i]? = some z := ⟨l[i], by simp⟩
        obtain ⟨z0, z1⟩ := hin i z hc
        have hw := wrap_succ hlt (by omega)
        have hd : decide ((i : Int) < l.length) = true := by simp [hlt]
        obtain ⟨b, hb⟩ : ∃ b, s[z.toNat]? = some b := ⟨s[z.toNat], by simp⟩
        simp [-frame, -getElem?_pos, h1, h5, h10, h62, h63, h64, hd, hc, hlt, hw, hq, hbq, z0, z1, hb]
        exact ih _ _ (by omega) ⟨i + 1, s.set z.toNat true, _, by rw [List.map_set]; rfl, by simp [h1], by simp [h5], by simp [h10], by simp [h62], by simp [h63], by simp, rfl, by omega, by rw [List.take_add_one, hc, hs]; simp [seenF]⟩
      · obtain rfl : i = l.length := by omega
        rw [List.take_length] at hs
        have htk : List.take opts.length (s.map boolP) = s.map boolP := List.take_of_length_le (by simp [hsl])
        have wc := containsF_ev n s (by omega) (by omega)
        have hr : rightB 3 opts.length l = (decide (l.length = opts.length) && !s.any (fun x => !x)) := by simp [rightB, hs]
        rw [hr]
        cases hb : s.any (fun x => !x) with
        | true =>
          rw [hb] at wc
          by_cases hlo : (l.length : Int) = opts.length
          · simp [-frame, h1, h5, h10, h62, h63, h64, hsl, htk, wc, hlo, show l.length = opts.length by omega]
          · simp [-frame, h1, h5, h10, h62, h63, h64, hsl, htk, wc, hlo, show ¬ l.length = opts.length by omega]
        | false =>
          rw [hb] at wc
          by_cases hlo : (l.length : Int) = opts.length
          · simp [-frame, h1, h5, h10, h62, h63, h64, hsl, htk, wc, hlo, show l.length = opts.length by omega]
          · simp [-frame, h1, h5, h10, h62, h63, h64, hsl, htk, wc, hlo, show ¬ l.length = opts.length by omega]
    · have : rightB kind opts.length l = true := by simp [rightB, k1, k2, k3]
      simp [-frame, h2, h1, h5, h16, h17, h18, k1, k2, k3, this]
end Go.Proofs.YtlhjljplfmmoaaaGreatDoor.Ev
