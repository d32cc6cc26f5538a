/- item.numbers: what it computes; what item.fits computes is said. -/
import Derived.Test.YtlhjljplfmmoaaaGreatDoorF8
namespace Go.Proofs.YtlhjljplfmmoaaaGreatDoor.Ev
open Go
set_option linter.unusedSimpArgs false
set_option linter.unusedVariables false
set_option maxRecDepth 10000
set_option maxHeartbeats 4000000
def numbersB (it : It) : Bool := withinB it.id 1 9999999 && withinB it.ver 1 50 && withinB it.pts 1 5 && withinB it.words 0 2000 && withinB it.secs 1 2000 && withinB it.fam 0 9999999 && withinB it.set 0 9999999 && withinB it.rub 0 9999999
theorem numbers_ev (n : Nat) (it : It) : (ev Tryz.prog tab (n + 2)).callA 39 [it.pv] = some [.val (.bool (numbersB it))] := by
  obtain ⟨id, ver, kind, stem, opts, choices, val, tol, texts, pts, cont, fam, set, words, secs, assets, rub⟩ := it
  have w := within_ev n
  simp only [intP] at w
  rw [callA_fn rfl Tryz.func39 rfl rfl rfl]
  simp [Tryz.f39, It.pv, w]
  repeat' ((first | refine test_cases ?_ ?_ | refine cond_cases ?_ ?_) <;> intro h <;> (try simp only [Bool.not_eq_true', Bool.not_eq_false'] at h) <;> simp [w, h])
  all_goals simp_all [numbersB]
theorem intsOf_map (zs : List Int) : intsOf (zs.map intP) = some zs := by
  induction zs with
  | nil => rfl
  | cons z t ih => show (match intsOf (t.map intP) with | some l => some (z :: l) | none => none) = _; rw [ih]
theorem ins_length (x : Int) (l : List Int) : (ins x l).length = l.length + 1 := by
  induction l with
  | nil => rfl
  | cons y t ih => unfold ins; split <;> simp [ih]
theorem isort_length (l : List Int) : (isort l).length = l.length := by
  induction l with
  | nil => rfl
  | cons x t ih => simp [isort, ins_length, ih]
theorem values_g (n : Nat) (xs : List PV) : (ev Tryz.prog tab (n + 1)).callA 70 [.sl xs] = some [.fn 101 xs] := rfl
theorem sorted_g (n : Nat) (zs : List Int) (h : zs.length * 8 ≤ 140737488351232) : (ev Tryz.prog tab (n + 1)).callA 69 [.fn 101 (zs.map intP)] = some [.sl ((isort zs).map intP)] := by
  show gSorted [.fn 101 (zs.map intP)] = _
  simp only [gSorted, intsOf_map, h, if_true]
def chosenB (kind : Int) : Bool := decide (kind = 1) || decide (kind = 2) || decide (kind = 3)
def keyB (it : It) : Bool :=
  if it.kind = 1 then decide (2 ≤ it.opts.length) && decide (it.choices.length = 1) && risingB it.choices 0 (it.opts.length - 1)
  else if it.kind = 2 then decide (2 ≤ it.opts.length) && decide (1 ≤ it.choices.length) && risingB it.choices 0 (it.opts.length - 1)
  else if it.kind = 3 then decide (2 ≤ it.opts.length) && decide (it.choices.length = it.opts.length) && risingB (isort it.choices) 0 (it.opts.length - 1)
  else if it.kind = 4 then withinB it.val (-9999999) 9999999 && withinB it.tol 0 9999999
  else if it.kind = 5 then textsB it.texts
  else decide (1 ≤ it.rub)
def fitsB (it : It) : Bool :=
  if !chosenB it.kind && (decide (0 < it.opts.length) || decide (0 < it.choices.length)) || !decide (it.kind = 4) && (!decide (it.val = 0) || !decide (it.tol = 0)) then false
  else if !decide (it.kind = 5) && decide (0 < it.texts.length) || !decide (it.kind = 6) && !decide (it.rub = 0) then false
  else keyB it
end Go.Proofs.YtlhjljplfmmoaaaGreatDoor.Ev
