/- The functions whose contracts are proved apart: what each computes. -/
import Derived.Lib.ItoaNum
import Derived.Lib.Repeat
import Derived.Lib.SlTrimSet
import Derived.Test.YtlhjljplfmmoaaaGreatDoorM1
set_option linter.unusedSimpArgs false
set_option linter.unusedVariables false
namespace Go.Proofs.YtlhjljplfmmoaaaGreatDoor.Ev
open Go
def ins (x : Int) : List Int → List Int
  | [] => [x]
  | y :: t => if x ≤ y then x :: y :: t else y :: ins x t
def isort : List Int → List Int
  | [] => []
  | x :: t => ins x (isort t)
def intP (n : Int) : PV := .val (.int .i64 n)
def strP (s : ByteArray) : PV := .val (.string s)
def intsOf : List PV → Option (List Int)
  | [] => some []
  | .val (.int .i64 n) :: t => (match intsOf t with | some l => some (n :: l) | none => none)
  | _ :: _ => none
def strsOf : List PV → Option (List ByteArray)
  | [] => some []
  | .val (.string s) :: t => (match strsOf t with | some l => some (s :: l) | none => none)
  | _ :: _ => none
def gValues : List PV → Option (List PV)
  | [.sl xs] => some [.fn 101 xs]
  | _ => none
def gSorted : List PV → Option (List PV)
  | [.fn f xs] => if f = 101 then match intsOf xs with
      | some zs => if zs.length * 8 ≤ 140737488351232 then some [.sl ((isort zs).map intP)] else none
      | none => none
    else none
  | _ => none
def joinB (sep : List UInt8) : List (List UInt8) → List UInt8
  | [] => []
  | [x] => x
  | x :: t => x ++ sep ++ joinB sep t
def gJoin : List PV → Option (List PV)
  | [.sl xs, .val (.string sep)] => match strsOf xs with
    | some zs => if zs.length ≤ 140737488355328 ∧ (joinB sep.data.toList (zs.map (·.data.toList))).length ≤ 140737488355328 then some [.val (.string ⟨(joinB sep.data.toList (zs.map (·.data.toList))).toArray⟩)] else none
    | none => none
  | _ => none
def countL (c : UInt8) : List UInt8 → Nat
  | [] => 0
  | x :: t => if x == c then countL c t + 1 else countL c t
def indexL (c : UInt8) : List UInt8 → Int → Int
  | [], _ => -1
  | x :: t, i => if x == c then i else indexL c t (i + 1)
def gCount : List PV → Option (List PV)
  | [.val (.string s), .val (.int .u8 c)] => some [.val (.int .i64 (countL c.toNat.toUInt8 s.data.toList))]
  | _ => none
def gIndexByte : List PV → Option (List PV)
  | [.val (.string s), .val (.int .u8 c)] => some [.val (.int .i64 (indexL c.toNat.toUInt8 s.data.toList 0))]
  | _ => none
def decF : Nat → Nat → List UInt8
  | 0, _ => []
  | k + 1, u => if u < 10 then [UInt8.ofNat (48 + u)] else decF k (u / 10) ++ [UInt8.ofNat (48 + u % 10)]
/-- A number's decimal digits. -/
def decL (u : Nat) : List UInt8 := decF 20 u
/-! The conditions compare natural numbers alone: where the kernel must look into a call of a given function, it stands still there at once. -/
def gItoa : List PV → Option (List PV)
  | [.val (.int .i64 (.ofNat k))] => if k ≤ 9223372036854775807 then some [.val (.string ⟨(decL k).toArray⟩)] else none
  | [.val (.int .i64 (.negSucc k))] => if k ≤ 9223372036854775807 then some [.val (.string ⟨(45 :: decL (k + 1)).toArray⟩)] else none
  | _ => none
def gFmtU : List PV → Option (List PV)
  | [.val (.int .u64 (.ofNat k)), .val (.int .i64 (.ofNat b))] => if b = 10 ∧ k ≤ 18446744073709551615 then some [.val (.string ⟨(decL k).toArray⟩)] else none
  | _ => none
def gRepeat : List PV → Option (List PV)
  | [.val (.string s), .val (.int .i64 (.ofNat c))] => if c ≤ 9223372036854775807 ∧ s.size * c ≤ 140737488355328 then some [.val (.string ⟨(Lib.repeatL s.data.toList c).toArray⟩)] else none
  | _ => none
def lowB (l : List UInt8) : Bool := l.all fun b => decide (b.toNat < 128)
def gTrim : List PV → Option (List PV)
  | [.val (.string s), .val (.string cs)] => if s.size ≤ 9223372036854775807 ∧ cs.size < 4294967281 ∧ lowB cs.data.toList = true then some [.val (.string ⟨(Lib.trimS s.data.toList cs.data.toList).toArray⟩)] else none
  | _ => none
def gTrimLeft : List PV → Option (List PV)
  | [.val (.string s), .val (.string cs)] => if cs.size < 4294967281 ∧ lowB cs.data.toList = true then some [.val (.string ⟨(Lib.trimLeftS s.data.toList cs.data.toList).toArray⟩)] else none
  | _ => none
def gLen32 : List PV → Option (List PV)
  | [.val (.int .u32 (.ofNat x))] => if x ≤ 4294967295 then some [.val (.int .i64 (Lib.bitLen x))] else none
  | _ => none
def tabF (f : FuncId) : Option (List PV → Option (List PV)) :=
  if f = 69 then some gSorted else if f = 70 then some gValues else if f = 48 then some gJoin else if f = 169 then some gCount else if f = 178 then some gIndexByte
  else if f = 47 then some gItoa else if f = 106 then some gFmtU else if f = 74 then some gRepeat else if f = 115 then some gTrim else if f = 82 then some gTrimLeft else if f = 127 then some gLen32 else none
def tab : Given := { fn := tabF, modeB := fun _ => false }
end Go.Proofs.YtlhjljplfmmoaaaGreatDoor.Ev
