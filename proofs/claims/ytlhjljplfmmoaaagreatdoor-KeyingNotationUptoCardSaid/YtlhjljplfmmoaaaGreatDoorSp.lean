/- A frame by what was written to it last: going through large functions without their unwritten slots. -/
import Derived.Test.YtlhjljplfmmoaaaGreatDoorSym
namespace Go.Proofs.YtlhjljplfmmoaaaGreatDoor.Ev
open Go
set_option linter.unusedSimpArgs false
set_option linter.unusedVariables false
set_option maxRecDepth 10000
set_option maxHeartbeats 4000000
def look : List (Nat × TV) → Nat → TV
  | [], _ => .undef
  | (j, v) :: t, i => if i = j then v else look t i
def frameOf (N : Nat) (a : List (Nat × TV)) : List TV := (List.range N).map (look a)
theorem nth_map (f : Nat → TV) : ∀ (l : List Nat) (i : Nat) (k : Nat), l[i]? = some k → nth (l.map f) i = f k
  | [], i, k, h => by simp at h
  | x :: t, 0, k, h => by simp at h; rw [h]; rfl
  | x :: t, i + 1, k, h => by
    simp at h
    exact nth_map f t i k h
theorem nth_frameOf {N i : Nat} (a : List (Nat × TV)) (h : i < N) : nth (frameOf N a) i = look a i :=
  nth_map _ _ _ _ (by simp [h])
theorem setN_map (f : Nat → TV) (v : TV) : ∀ (l : List Nat) (i : Nat), setN (l.map f) i v = (List.range l.length).map (fun j => if j = i then v else nth (l.map f) j)
  | [], i => rfl
  | x :: t, 0 => by
    simp only [List.map_cons, setN, List.length_cons, List.range_succ_eq_map, if_true, List.map_map]
    congr 1
    apply List.ext_getElem
    · simp
    · intro j h1 h2
      simp only [List.getElem_map, List.getElem_range, Function.comp, Nat.succ_ne_zero, if_false, Nat.succ_eq_add_one, nth]
      have h3 : j < t.length := by simpa using h1
      exact (nth_map f t j t[j] (by simp)).symm
  | x :: t, i + 1 => by
    simp only [List.map_cons, setN, List.length_cons, List.range_succ_eq_map, List.map_map, setN_map f v t i]
    simp [nth, Function.comp_def]
theorem setN_frameOf (N : Nat) (a : List (Nat × TV)) (i : Nat) (v : TV) : setN (frameOf N a) i v = frameOf N ((i, v) :: a) := by
  unfold frameOf
  rw [setN_map, List.length_range]
  apply List.map_congr_left
  intro j hj
  simp only [look]
  split
  · rfl
  · exact nth_frameOf a (List.mem_range.1 hj)
def enumA : Nat → List TV → List (Nat × TV)
  | _, [] => []
  | k, v :: t => (k, v) :: enumA (k + 1) t
theorem look_enum : ∀ (vs : List TV) (k i : Nat), look (enumA k vs) (k + i) = nth vs i
  | [], k, i => rfl
  | v :: t, k, 0 => by simp [enumA, look, nth]
  | v :: t, k, i + 1 => by
    have := look_enum t (k + 1) i
    simp only [enumA, look, nth]
    rw [if_neg (by omega), show k + (i + 1) = k + 1 + i by omega]
    exact this
theorem nth_append_undef (vs : List TV) : ∀ (i k : Nat), nth (vs ++ List.replicate k .undef) i = nth vs i := by
  induction vs with
  | nil =>
    intro i k
    induction k generalizing i with
    | zero => simp [nth]
    | succ k ih =>
      cases i with
      | zero => simp [List.replicate, nth]
      | succ i => simpa [List.replicate, nth] using ih i
  | cons v t ih =>
    intro i k
    cases i with
    | zero => rfl
    | succ i => exact ih i k
theorem nth_getElem (l : List TV) (i : Nat) (h : i < l.length) : l[i] = nth l i := by
  induction l generalizing i with
  | nil => simp at h
  | cons v t ih =>
    cases i with
    | zero => rfl
    | succ i => exact ih i (by simpa using h)
theorem frame_eq (nt : Nat) (vs : List TV) (h : vs.length ≤ nt) : frame nt vs = frameOf nt (enumA 0 vs) := by
  unfold frame frameOf
  apply List.ext_getElem
  · simp; omega
  · intro i h1 h2
    rw [nth_getElem, nth_append_undef, List.getElem_map, List.getElem_range]
    have := look_enum vs 0 i
    rw [Nat.zero_add] at this
    exact this.symm

attribute [simp] nth_frameOf setN_frameOf look frame_eq enumA
end Go.Proofs.YtlhjljplfmmoaaaGreatDoor.Ev
