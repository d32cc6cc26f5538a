/- Answers; what keying.Valid computes. -/
import Derived.Test.YtlhjljplfmmoaaaGreatDoorF19
import Derived.Test.YtlhjljplfmmoaaaGreatDoorF32
namespace Go.Proofs.YtlhjljplfmmoaaaGreatDoor.Ev
open Go
set_option linter.unusedSimpArgs false
set_option linter.unusedVariables false
set_option maxRecDepth 10000
set_option maxHeartbeats 4000000
structure Ans where
  item : Int
  choices : List Int
  value : Int
  text : ByteArray
  om : Bool
def Ans.pv : Ans → PV
  | ⟨item, choices, value, text, om⟩ => .agg [.val (.int .i64 item), .sl (choices.map intP), .val (.int .i64 value), .val (.string text), .val (.bool om)]
def emptyS (s : ByteArray) : Bool := s.toList == []
def badB (kind : Int) (a : Ans) : Bool :=
  (decide (0 < a.choices.length) && (a.om || !chosenB kind)) || (!decide (a.value = 0) && (a.om || !decide (kind = 4))) || (!emptyS a.text && (a.om || !writtenC kind))
noncomputable def inner (kind : Int) (no : Nat) (a : Ans) : Int :=
  if kind = 4 then (if a.value < -9999999 ∨ 9999999 < a.value then 3 else 0)
  else if kind = 5 then (if 200 < a.text.size then 5 else 0)
  else if kind = 6 then (if 2000 < a.text.size then 5 else 0)
  else choicesI kind no a.choices
noncomputable def kvalidI (it : It) (a : Ans) : Int :=
  if validI it = 0 then (if a.item = it.id then (if badB it.kind a = true then 1 else if a.om = true then 0 else inner it.kind it.opts.length a) else 6) else validI it
theorem valid_opts {it : It} (h : validI it = 0) : it.opts.length ≤ 10 := by
  unfold validI at h
  split at h
  · simp at h
  · split at h
    · simp at h
    · split at h
      · simp at h
      · split at h
        · simp at h
        · rename_i h4
          simp only [Bool.or_eq_true, decide_eq_true_eq] at h4
          omega
end Go.Proofs.YtlhjljplfmmoaaaGreatDoor.Ev
