/- The evaluator is right; what a row reads as arguments is data of its own. -/
import Derived.Test.YtlhjljplfmmoaaaGreatDoorM2
import Derived.Conc.MuLone
import Derived.DataReads
import GoSem.ClaimChange
import Derived.SizedLaws
import Derived.Test.YtlhjljplfmmoaaaGreatDoorRows
import Derived.WalkKit
import Derived.ProofKit
import Derived.OpenShut
import Derived.ChangeOld
import Derived.Below
import Derived.ChangeSame
import Derived.ChangeVars
import Derived.JoinedOf
import Derived.RowKit
import Derived.LaidLaws
import Derived.LaidHandle
import Derived.Stop.Joined
import Derived.Handed
import Derived.Lay
import Derived.MakeChecks
import Derived.Carry
set_option linter.unusedSimpArgs false
set_option linter.unusedVariables false
/- Soundness of the evaluator, part 20: regions in the order of their text. -/
namespace Go.Proofs.YtlhjljplfmmoaaaGreatDoor.Ev
open Go Go.RowKit Go.Lib
section
variable {P : Program} {S0 H H' : Nat → Prop} {n0 : Nat} {w0 : World} {st st1 : St} {a : Act} {W W' : World} {A : List (Array Value)} {μ μ' : Mu} {S S' : Nat → Prop} {so so' : Store}
theorem told_of_ne {v : TV} (h1 : v ≠ .undef) : ∀ {l : List TV} {i : Nat}, nth l i = v → l[i]? = some v := fun h => nth_some h h1
theorem wanted_run (h : Rel P S0 n0 w0 H st a W A μ) {ops : Array Oper} {o : Oper} {b : Bool} (hw : wantedE ops st.tm o.guard = some b) : Region.wanted o (yielded ops a.tmps) = b := by
  unfold Region.wanted
  unfold wantedE at hw
  cases hg : o.guard with
  | none =>
    rw [hg] at hw
    exact Option.some.inj hw
  | some jw =>
    obtain ⟨j, w⟩ := jw
    rw [hg] at hw
    simp only at hw ⊢
    unfold guardDst at hw
    unfold yielded
    cases hd : (ops[j]?).bind (·.dst) with
    | none =>
      rw [hd] at hw
      obtain rfl := Option.some.inj hw
      rfl
    | some t =>
      rw [hd] at hw
      simp only [Option.bind_some] at hw ⊢
      unfold testTV at hw
      split at hw
      · rename_i c hc
        obtain rfl := Option.some.inj hw
        obtain ⟨u, hu, hr⟩ := h.slots t _ (nth_some hc (by simp))
        obtain ⟨rfl, _⟩ := hr
        rw [hu]
        cases c <;> cases w <;> rfl
      · rename_i hc
        obtain rfl := Option.some.inj hw
        obtain ⟨u, hu, hr⟩ := h.slots t _ (nth_some hc (by simp))
        obtain rfl : u = Go.undef := hr
        rw [hu]
        rfl
      · simp at hw
theorem skip_rep : Rep3 P S μ so W .skip Go.undef := rfl
theorem evOps_run {R : Type} {D : Dat} {B : Nat} {w00 : World} (hD : Sound P B w00 D) (hB : B ≤ n0) (hw : Below B w00 w0) {base : Nat} {ops : Array Oper} {k : St → Option R} {r : R} {Q : Exit → Act → World → Prop} : ∀ (l : List Oper) {st : St} {a : Act} {W : World} {μ : Mu},
    Rel P S0 n0 w0 noH st a W A μ → evOps (evStep P D base) ops l st k = some r → (∀ st' a' W' μ', Rel P S0 n0 w0 noH st' a' W' A μ' → k st' = some r → Q .normal a' W') → wpList P ops Q l a W := by
  intro l
  induction l with
  | nil => intro st a W μ h he hQ; exact hQ st a W μ h he
  | cons o l ih =>
    intro st a W μ h he hQ
    simp only [evOps] at he
    simp only [wpList]
    split at he
    · simp at he
    · rename_i hwant
      rw [wanted_run h hwant]
      simp only [if_true]
      split at he
      · rename_i st1 hst
        exact .inl (op_run h hD hB hw hst fun a' W' μ' h' => ih h' he hQ)
      · simp at he
    · rename_i hwant
      rw [wanted_run h hwant]
      simp only [Bool.false_eq_true, if_false]
      exact ih (h.put o.dst skip_rep) he hQ
end
end Go.Proofs.YtlhjljplfmmoaaaGreatDoor.Ev
/- Soundness of the evaluator, part 21: code. -/
namespace Go.Proofs.YtlhjljplfmmoaaaGreatDoor.Ev
open Go Go.RowKit Go.Lib
/-- What a region that draws its order is evaluated to. -/
def evDraw {R : Type} (P : Program) (D : Dat) (base : Nat) (ops : Array Oper) (st : St) (k : St → Option R) : Option R := match okDraw D.modeB ops, preAlloc P base ops.toList st with
  | true, some st1 => evOps (evStepD P D base) ops ops.toList st1 k
  | _, _ => none
/-- What the regions that draw their order promise. -/
def DrawOk (P : Program) (B : Nat) (w00 : World) (D : Dat) : Prop :=
  ∀ {R : Type} (base : Nat) (ops : Array Oper) (st : St) (k : St → Option R) (r : R) (Q : Exit → Act → World → Prop) (S0 : Nat → Prop) n0 w0 a W A μ, B ≤ n0 → Below B w00 w0 → Rel P S0 n0 w0 noH st a W A μ → evDraw P D base ops st k = some r →
    (∀ st' a' W' μ', Rel P S0 n0 w0 noH st' a' W' A μ' → k st' = some r → Q .normal a' W') → ∀ id, (Code.region id ops true).wp P Q a W
section
variable {P : Program} {S0 H H' : Nat → Prop} {n0 : Nat} {w0 : World} {A : List (Array Value)}
theorem loop_arrives {R : Type} {c : Code} {step : St → (St → Option R) → Option R} {r : R} {Q : Exit → Act → World → Prop}
    (hbody : ∀ (kn : St → Option R) st a W μ, Rel P S0 n0 w0 noH st a W A μ → step st kn = some r → ∀ K : Act → World → Prop, (∀ st' a' W' μ', Rel P S0 n0 w0 noH st' a' W' A μ' → kn st' = some r → K a' W') → c.wp P (Exit.then K Q) a W) :
    ∀ (m : Nat) st a W μ, Rel P S0 n0 w0 noH st a W A μ → loopN step m st = some r → ∀ (b : Frame) (k : List Item) (cs : List Frame), ∃ e a' w', Q e a' w' ∧ Arrives P (lone (b.at a (.code c :: .inLoop c :: k)) cs W) b k cs e a' w' := by
  intro m
  induction m with
  | zero => intro st a W μ _ he; simp [loopN] at he
  | succ m ih =>
    intro st a W μ h he b k cs
    simp only [loopN] at he
    obtain ⟨e, a₁, w₁, hq, harr⟩ := hbody (loopN step m) st a W μ h he (fun a' W' => ∃ st' μ', Rel P S0 n0 w0 noH st' a' W' A μ' ∧ loopN step m st' = some r) (fun st' a' W' μ' h' he' => ⟨st', μ', h', he'⟩) b (.inLoop c :: k) cs
    cases e with
    | normal =>
      obtain ⟨st', μ', h', he'⟩ := hq
      obtain ⟨e₂, a₂, w₂, hq₂, harr₂⟩ := ih st' a₁ w₁ μ' h' he' b k cs
      exact ⟨e₂, a₂, w₂, hq₂, .of_steps (Steps.trans harr (.one step_inLoop)) harr₂⟩
    | exit id => exact ⟨_, a₁, w₁, hq, .pass (x := .inLoop c) rfl (fun _ _ => .inl (by simp)) harr⟩
    | goto l => exact ⟨_, a₁, w₁, hq, .pass (x := .inLoop c) rfl (fun _ _ => .inl (by simp)) harr⟩
    | ret => exact ⟨_, a₁, w₁, hq, .pass (x := .inLoop c) rfl (fun _ _ => .inl (by simp)) harr⟩
    | panic ch => exact ⟨_, a₁, w₁, hq, .pass (x := .inLoop c) rfl (fun _ _ => .inl (by simp)) harr⟩
    | outgrown => exact ⟨_, a₁, w₁, hq, .pass (x := .inLoop c) rfl (fun _ _ => .inl (by simp)) harr⟩
theorem evC_run {R : Type} {D : Dat} {B : Nat} {w00 : World} (hD : Sound P B w00 D) (hdr : DrawOk P B w00 D) (hB : B ≤ n0) (hw : Below B w00 w0) {base n : Nat} {r : R} : ∀ (c : Code) (st : St) (a : Act) (W : World) (μ : Mu) (kn : St → Option R) (ke : Nat → St → Option R) (kr : St → Option R) (Q : Exit → Act → World → Prop),
    Rel P S0 n0 w0 noH st a W A μ → evC P D base n c st kn ke kr = some r →
    (∀ st' a' W' μ', Rel P S0 n0 w0 noH st' a' W' A μ' → kn st' = some r → Q .normal a' W') →
    (∀ id st' a' W' μ', Rel P S0 n0 w0 noH st' a' W' A μ' → ke id st' = some r → Q (.exit id) a' W') →
    (∀ st' a' W' μ', Rel P S0 n0 w0 noH st' a' W' A μ' → kr st' = some r → Q .ret a' W') → c.wp P Q a W := by
  intro c
  induction c with
  | skip =>
    intro st a W μ kn ke kr Q h he hn _ _
    exact wp_skip (hn st a W μ h he)
  | region id ops draw =>
    intro st a W μ kn ke kr Q h he hn _ _
    cases draw with
    | true => exact hdr base ops st kn r Q S0 n0 w0 a W A μ hB hw h he hn id
    | false => exact wp_region_list (evOps_run hD hB hw ops.toList h he hn)
  | seq x y ihx ihy =>
    intro st a W μ kn ke kr Q h he hn hx hr
    exact wp_seq (ihx st a W μ _ ke kr _ h he (fun st' a' W' μ' h' he' => ihy st' a' W' μ' kn ke kr Q h' he' hn hx hr) (fun id st' a' W' μ' h' he' => hx id st' a' W' μ' h' he') (fun st' a' W' μ' h' he' => hr st' a' W' μ' h' he'))
  | cond c x y ihx ihy =>
    intro st a W μ kn ke kr Q h he hn hx hr
    simp only [evC] at he
    split at he
    · rename_i hc
      have := h.eval hc
      exact wp_cond_true this.1 (ihx st a W μ kn ke kr Q h he hn hx hr)
    · rename_i hc
      have := h.eval hc
      exact wp_cond_false this.1 (ihy st a W μ kn ke kr Q h he hn hx hr)
    · simp at he
  | block id c ih =>
    intro st a W μ kn ke kr Q h he hn hx hr
    refine wp_block (ih st a W μ kn _ kr _ h he (fun st' a' W' μ' h' he' => hn st' a' W' μ' h' he') (fun j st' a' W' μ' h' he' => ?_) (fun st' a' W' μ' h' he' => hr st' a' W' μ' h' he'))
    simp only [Exit.inBlock]
    split
    · rename_i hj
      simp only [hj, if_true] at he'
      exact hn st' a' W' μ' h' he'
    · rename_i hj
      simp only [hj, if_false] at he'
      exact hx j st' a' W' μ' h' he'
  | loop c ih =>
    intro st a W μ kn ke kr Q h he hn hx hr
    simp only [evC] at he
    intro b k cs
    obtain ⟨e, a', w', hq, harr⟩ := loop_arrives (P := P) (S0 := S0) (n0 := n0) (w0 := w0) (A := A) (c := c) (r := r) (Q := Q) (step := fun st1 again => evC P D base n c st1 again ke kr) (fun kn st a W μ h he K hK => ih st a W μ kn ke kr _ h he hK (fun id st' a' W' μ' h' he' => hx id st' a' W' μ' h' he') (fun st' a' W' μ' h' he' => hr st' a' W' μ' h' he')) n st a W μ h he b k cs
    exact ⟨e, a', w', hq, .of_steps (.one step_loop) harr⟩
  | exit id =>
    intro st a W μ kn ke kr Q h he hn hx hr
    exact wp_exit (hx id st a W μ h he)
  | ret =>
    intro st a W μ kn ke kr Q h he hn hx hr
    exact wp_ret (hr st a W μ h he)
  | _ => intros; simp [evC] at *
end
end Go.Proofs.YtlhjljplfmmoaaaGreatDoor.Ev
/- Soundness of the evaluator, part 22: functions. -/
namespace Go.Proofs.YtlhjljplfmmoaaaGreatDoor.Ev
open Go Go.RowKit Go.Lib
section
variable {P : Program} {S0 H H' : Nat → Prop} {n0 : Nat} {w0 : World} {st st1 : St} {a : Act} {W W' : World} {A : List (Array Value)} {μ μ' : Mu} {S S' : Nat → Prop} {so so' : Store}
theorem told_eval (h : Rel P S0 n0 w0 H st a W A μ) {t : Nat} {v : TV} (hv : told (nth st.tm t) = some v) : Rep3 P (free S0 n0 H μ st.so W) μ st.so W v (a.tmps.getD t undef) :=
  h.eval (x := .tmp t) hv
/-- What the machine reads of a result's variable. -/
def resOf (tmps : Array Value) : ResultVar → Sem Value
  | .tmp t => pure (tmps.getD t undef)
  | .cell a t => do loadVar t (← asAddr (tmps.getD a undef))
theorem readRes_run (h : Rel P S0 n0 w0 H st a W A μ) {r : ResultVar} {v : TV} (hv : readRes P st r = some v) : ∃ u, (resOf a.tmps r).run P W = .ok u W ∧ Rep3 P (free S0 n0 H μ st.so W) μ st.so W v u := by
  cases r with
  | tmp t => exact ⟨_, by simp [resOf], told_eval h hv⟩
  | cell p t =>
    simp only [readRes, opLoad] at hv
    split at hv
    · rename_i w hw
      have hp := told_eval h hw
      obtain ⟨z, h1, h2⟩ := h.load hp hv
      refine ⟨z, ?_, h2⟩
      have : ∃ ad, a.tmps.getD p undef = .pointer (some ad) := by
        unfold loadTV at hv
        split at hv
        · obtain ⟨b, cap, _, ⟨cs, _, _, he⟩ | ⟨e, xs, s, _, _, he⟩⟩ := hp <;> exact ⟨_, he⟩
        · obtain ⟨ad, he, _⟩ := hp
          exact ⟨ad, he⟩
        · simp at hv
      obtain ⟨ad, he⟩ := this
      rw [he] at h1
      simp only [resOf, he, asAddr, pure_bind]
      simpa [Instr.loadAt, Instr.sureAddr] using h1
    · simp at hv
theorem readAll_run (h : Rel P S0 n0 w0 H st a W A μ) : ∀ (rs : List ResultVar) {vs : List TV}, readAll P st rs = some vs → ∃ us : List Value, (rs.mapM (resOf a.tmps)).run P W = .ok us W ∧ us.length = vs.length ∧
    ∀ (j : Nat) (v : TV), vs[j]? = some v → ∃ u, us[j]? = some u ∧ Rep3 P (free S0 n0 H μ st.so W) μ st.so W v u := by
  intro rs
  induction rs with
  | nil => intro vs hv; simp [readAll] at hv; subst hv; exact ⟨[], by simp, rfl, fun j v hj => by simp at hj⟩
  | cons r rs ih =>
    intro vs hv
    simp only [readAll] at hv
    split at hv
    · rename_i v vs' h1 h2
      obtain rfl := Option.some.inj hv
      obtain ⟨u, g1, g2⟩ := readRes_run h h1
      obtain ⟨us, g3, g4, g5⟩ := ih h2
      refine ⟨u :: us, by simp [List.mapM_cons, g1, g3], by simp [g4], fun j w hj => ?_⟩
      cases j with
      | zero => obtain rfl : v = w := by simpa using hj
                exact ⟨u, rfl, g2⟩
      | succ j => exact g5 j w (by simpa using hj)
    · simp at hv
theorem results_run (fn : Func) (tmps : Array Value) {us : List Value} (h : (fn.results.toList.mapM (resOf tmps)).run P W = .ok us W) : (results fn tmps).run P W = .ok (if h : us.toArray.size = 1 then us.toArray[0] else .tuple us.toArray) W := by
  have he : results fn tmps = (do let vs ← fn.results.mapM (resOf tmps); pure (if h : vs.size = 1 then vs[0] else .tuple vs)) := by
    unfold results
    congr 1
  rw [he, Sem.run_bind, Array.mapM_eq_mapM_toList]
  simp [h]
theorem toPVs_get {so : Store} : ∀ {vs : List TV} {ps : List PV}, toPVs so vs = some ps → ps.length = vs.length ∧ ∀ (j : Nat) (p : PV), ps[j]? = some p → ∃ v, vs[j]? = some v ∧ toPV so v = some p := by
  intro vs
  induction vs with
  | nil => intro ps h; simp [toPVs] at h; subst h; simp
  | cons v vs ih =>
    intro ps h
    simp only [toPVs] at h
    split at h
    · rename_i x xs hx hxs
      obtain rfl := Option.some.inj h
      obtain ⟨h1, h2⟩ := ih hxs
      refine ⟨by simp [h1], fun j c hj => ?_⟩
      cases j with
      | zero => obtain rfl : x = c := by simpa using hj
                exact ⟨v, by simp, hx⟩
      | succ j => simpa using h2 j c (by simpa using hj)
    · simp at h
theorem RepVL.of : ∀ {ps : List PV} {us : List Value}, us.length = ps.length → (∀ (j : Nat) (p : PV), ps[j]? = some p → ∃ u, us[j]? = some u ∧ RepV S W p u) → RepVL S W ps us
  | [], [], _, _ => trivial
  | p :: ps, u :: us, hl, h => by
    obtain ⟨u', hu, hr⟩ := h 0 p rfl
    obtain rfl : u = u' := by simpa using hu
    exact ⟨hr, RepVL.of (by simpa using hl) fun j q hj => by simpa using h (j + 1) q (by simpa using hj)⟩
  | [], _ :: _, hl, _ => by simp at hl
  | _ :: _, [], hl, _ => by simp at hl
theorem endA_run (h : Rel P S0 n0 w0 noH st a W A μ) {fn : Func} {rs : List PV} (he : endA P fn.results.toList st = some rs) :
    ∃ v, (results fn a.tmps).run P W = .ok v W ∧ RepRes (fun b => (S0 b ∨ n0 ≤ b) ∧ b < W.heap.size) W rs v := by
  unfold endA pvsO at he
  split at he
  · rename_i vs hvs
    obtain ⟨us, h1, h2, h3⟩ := readAll_run h _ hvs
    obtain ⟨h4, h5⟩ := toPVs_get he
    refine ⟨_, results_run fn a.tmps h1, ?_⟩
    have hR : ∀ (j : Nat) (p : PV), rs[j]? = some p → ∃ u, us[j]? = some u ∧ RepV (fun b => (S0 b ∨ n0 ≤ b) ∧ b < W.heap.size) W p u := fun j p hj => by
      obtain ⟨v, hv, hp⟩ := h5 j p hj
      obtain ⟨u, hu, hr⟩ := h3 j v hv
      exact ⟨u, hu, h.pv (fun b hb => ⟨hb.1, hb.2.2.1⟩) hp hr fun k _ e xs hk c hc => ⟨.inr (h.obj k _ hk c hc).1, (h.obj k _ hk c hc).2.1⟩⟩
    by_cases h1 : rs.length = 1
    · left
      match rs, h1 with
      | [x], _ =>
        obtain ⟨u, hu, hr⟩ := hR 0 x rfl
        match us, h2, h4 with
        | [u'], _, _ =>
          obtain rfl : u' = u := by simpa using hu
          exact ⟨x, rfl, hr⟩
        | [], h2, h4 => simp at hu
        | _ :: _ :: _, h2, h4 => simp at h2 h4; omega
    · right
      refine ⟨h1, us.toArray, ?_, RepVL.of (by simp; omega) hR⟩
      rw [dif_neg (by simp; omega)]
  · simp at he
theorem noTup_get : ∀ {vs : List TV}, noTup vs = true → ∀ (j : Nat) (ts : List TV), vs[j]? ≠ some (.tup ts) := by
  intro vs
  induction vs with
  | nil => intro _ j ts h; simp at h
  | cons v vs ih =>
    intro hn j ts h
    cases j with
    | zero =>
      obtain rfl : v = .tup ts := by simpa using h
      simp [noTup] at hn
    | succ j =>
      refine ih ?_ j ts (by simpa using h)
      cases v <;> first | exact hn | (simp [noTup] at hn)
theorem Rep3.two {v : TV} {u : Value} (h : Rep3 P S μ so W v u) (hv : ∀ ts, v ≠ .tup ts) : Rep2 P S μ so W v u := by
  cases v <;> first | exact h | (exact absurd rfl (hv _))
theorem endB_run (h : Rel P S0 n0 w0 noH st a W A μ) {fn : Func} {vs : List TV} {st' : St} (he : endB P fn.results.toList st = some (vs, st')) {tmps : Array Value} {A' : List (Array Value)} (hA : A = tmps :: A') :
    ∃ v, (results fn a.tmps).run P W = .ok v W ∧ Rel P S0 n0 w0 noH st' { tmps := tmps, defers := [] } W A' μ ∧ Rep3 P (free S0 n0 noH μ st'.so W) μ st'.so W (tupB vs) v := by
  subst hA
  unfold endB backB at he
  split at he
  · rename_i vs' hvs
    split at he
    · rename_i tm sus hnt hsus
      simp only [Option.some.injEq, Prod.mk.injEq] at he
      obtain ⟨rfl, rfl⟩ := he
      obtain ⟨us, h1, h2, h3⟩ := readAll_run h _ hvs
      refine ⟨_, results_run fn a.tmps h1, ⟨h.below, h.old, h.s0, h.held, rfl, ?_, ?_, ⟨?_, fun q l t hl ht => ?_⟩, h.obj, h.inj⟩, ?_⟩
      · exact (h.sus.2 0 tm tmps (by rw [hsus]; rfl) rfl).1
      · exact (h.sus.2 0 tm tmps (by rw [hsus]; rfl) rfl).2
      · have := h.sus.1
        rw [hsus] at this
        simpa using this
      · exact h.sus.2 (q + 1) l t (by rw [hsus]; simpa using hl) (by simpa using ht)
      · match vs', us, h2 with
        | [v], [u], _ =>
          obtain ⟨u', hu, hr⟩ := h3 0 v rfl
          obtain rfl : u = u' := by simpa using hu
          exact hr
        | [], us, h2 =>
          obtain rfl : us = [] := List.eq_nil_of_length_eq_zero h2
          exact ⟨#[], rfl, rfl, fun j c hj => by simp at hj⟩
        | v1 :: v2 :: vs, us, h2 =>
          rw [dif_neg (by simp [h2])]
          refine ⟨us.toArray, rfl, by simpa using h2, fun j c hj => ?_⟩
          obtain ⟨u, hu, hr⟩ := h3 j c hj
          exact ⟨u, by simpa using hu, hr.two fun ts he => noTup_get hnt j ts (he ▸ hj)⟩
    · simp at he
  · simp at he
theorem tvs_get : ∀ {ps : List PV} {j : Nat} {v : TV}, (tvs ps)[j]? = some v → ∃ p, ps[j]? = some p ∧ v = p.tv := by
  intro ps
  induction ps with
  | nil => intro j v h; simp [tvs] at h
  | cons p ps ih =>
    intro j v h
    cases j with
    | zero => exact ⟨p, rfl, (by simpa [tvs] using h.symm)⟩
    | succ j => simpa using ih (by simpa [tvs] using h)
theorem tvs_length : ∀ (ps : List PV), (tvs ps).length = ps.length
  | [] => rfl
  | _ :: ps => by simp [tvs, tvs_length ps]
/-- The functions that are given keep what they promise. -/
structure GivenOk (P : Program) (B : Nat) (w00 : World) (G : Given) : Prop where
  fns : ∀ f g, G.fn f = some g → SoundA P B w00 (fun f' ps => if f' = f then g ps else none)
  named : ∀ (f : FuncId) (fn : Func), P.funcs[f]? = some fn → (fn.name == "runtime.NumGoroutine") = false
theorem frame_slots {nt : Nat} {vs : List TV} {us : Array Value} (hl : us.size = vs.length) (hR : ∀ (j : Nat) (v : TV), vs[j]? = some v → ∃ u, us[j]? = some u ∧ Rep3 P S μ so W v u) :
    (us ++ Array.replicate (nt - us.size) undef).size = (frame nt vs).length ∧ ∀ (j : Nat) (v : TV), (frame nt vs)[j]? = some v → ∃ u, (us ++ Array.replicate (nt - us.size) undef)[j]? = some u ∧ Rep3 P S μ so W v u := by
  refine ⟨by simp [frame, hl], fun j v hj => ?_⟩
  simp only [frame] at hj
  rw [List.getElem?_append] at hj
  split at hj
  · rename_i hlt
    obtain ⟨u, hu, hr⟩ := hR j v hj
    exact ⟨u, by rw [Array.getElem?_append_left (by omega)]; exact hu, hr⟩
  · rename_i hge
    rw [List.getElem?_replicate] at hj
    split at hj
    · obtain rfl := Option.some.inj hj
      exact ⟨undef, by rw [Array.getElem?_append_right (by omega), Array.getElem?_replicate, if_pos (by omega)], trivial⟩
    · simp at hj
theorem enter_does (hN : ∀ (f : FuncId) (fn : Func), P.funcs[f]? = some fn → (fn.name == "runtime.NumGoroutine") = false) {f : FuncId} {fn : Func} {c : Code} (hf : P.funcs[f]? = some fn) (hb : fn.body = some c) {args : Array Value} {R : Value → World → Prop}
    (h : Calls P f args W fun e W'' => ∃ v, e = .returned v ∧ R v W'') : Does P f args W R := by
  unfold Does
  rw [MuLone.run_callFunc_enter hf (hN f fn hf) hb]
  exact h
theorem callA_sound {B : Nat} {w00 : World} (hB0 : B ≤ w00.heap.size) {G : Given} (hG : GivenOk P B w00 G) {D : Dat} (hD : Sound P B w00 D) (hdr : DrawOk P B w00 D) (n : Nat) : SoundA P B w00 (callAof P G D n) := by
  intro f ps rs hc S W args hw hS hR
  unfold callAof at hc
  split at hc
  · rename_i g hg
    exact hG.fns f g hg f ps rs (by simpa using hc) S W args hw hS hR
  · split at hc
    · rename_i fn hf
      split at hc
      · rename_i c hb
        split at hc
        · rename_i hcond
          refine enter_does hG.named hf hb (calls_of_wp hf hb ?_)
          obtain ⟨hl, hget⟩ := hR.get
          have hsl := frame_slots (P := P) (S := free S W.heap.size noH (fun _ => none) [] W) (μ := fun _ => none) (so := []) (W := W) (nt := fn.ntmps) (vs := tvs ps) (us := args) (by rw [tvs_length, ← hl, Array.length_toList]) (fun j v hj => by
            obtain ⟨p, hp, rfl⟩ := tvs_get hj
            obtain ⟨u, hu, hr⟩ := hget j p hp
            exact ⟨u, by simpa using hu, (hr.step fun b hb => ⟨⟨.inl hb, fun h => h.elim, hS b hb, fun k c _ hk => by simp at hk⟩, fun _ => rfl⟩).tv.one⟩)
          have h0 : Rel P S W.heap.size W noH { tm := frame fn.ntmps (tvs ps), sus := [], so := [] } { tmps := args ++ Array.replicate (fn.ntmps - args.size) undef, defers := [] } W [] (fun _ => none) :=
            ⟨Below.refl _ W, Nat.le_refl _, hS, fun b hb => hb.elim, rfl, hsl.1, hsl.2, ⟨rfl, fun q l t hl => by simp at hl⟩, fun k o hk => by simp [Store.get] at hk, fun k k' c c' hk => by simp [Store.get] at hk⟩
          have fin : ∀ st' (a' : Act) W' μ', Rel P S W.heap.size W noH st' a' W' [] μ' → endA P fn.results.toList st' = some rs → a'.defers = [] ∧ ∃ v, (results fn a'.tmps).run P W' = .ok v W' ∧ ∃ v_1, Ending.returned v = .returned v_1 ∧ Below W.heap.size W W' ∧ RepRes (fun b => (S b ∨ W.heap.size ≤ b) ∧ b < W'.heap.size) W' rs v_1 := fun st' a' W' μ' h' he' => by
            obtain ⟨v, h1, h2⟩ := endA_run h' he'
            exact ⟨h'.defers, v, h1, v, rfl, h'.below, h2⟩
          exact evC_run hD hdr (Nat.le_trans hB0 hw.size) hw c _ _ W _ _ _ _ _ h0 hc (fun st' a' W' μ' h' he' => fin st' a' W' μ' h' he') (fun id st' a' W' μ' h' he' => by simp at he') (fun st' a' W' μ' h' he' => fin st' a' W' μ' h' he')
        · simp at hc
      · simp at hc
    · simp at hc
theorem allSome_get {α : Type} : ∀ {xs : List (Option α)} {ys : List α}, allSome xs = some ys → xs = ys.map some := by
  intro xs
  induction xs with
  | nil => intro ys h; simp [allSome] at h; subst h; rfl
  | cons x xs ih =>
    intro ys h
    cases x with
    | none => simp [allSome] at h
    | some x =>
      simp only [allSome] at h
      obtain ⟨zs, hz, rfl⟩ := Option.map_eq_some_iff.1 h
      rw [ih hz]
      rfl
theorem RepL.get : ∀ {vs : List TV} {us : List Value}, RepL P S μ so W (vs.map some) us → us.length = vs.length ∧ ∀ (j : Nat) (v : TV), vs[j]? = some v → ∃ u, us[j]? = some u ∧ Rep3 P S μ so W v u
  | [], [], _ => ⟨rfl, fun j v hj => by simp at hj⟩
  | v :: vs, u :: us, h => by
    obtain ⟨h1, h2⟩ := RepL.get (vs := vs) (us := us) h.2
    refine ⟨by simp [h1], fun j w hj => ?_⟩
    cases j with
    | zero => obtain rfl : v = w := by simpa using hj
              exact ⟨u, rfl, h.1⟩
    | succ j => exact h2 j w (by simpa using hj)
  | [], _ :: _, h => h.elim
  | _ :: _, [], h => h.elim
theorem callB_sound {B : Nat} {w00 : World} {G : Given} (hG : GivenOk P B w00 G) {D : Dat} (hD : Sound P B w00 D) (hdr : DrawOk P B w00 D) (n : Nat) : SoundB P B w00 (callBof P D n) := by
  intro f xs base st vs st' hc S0 n0 w0 a W A μ us h hB hw hR
  unfold callBof at hc
  split at hc
  · rename_i fn args hf hargs
    split at hc
    · rename_i c hb
      split at hc
      · rename_i hcond
        refine enter_does hG.named hf hb (calls_of_wp hf hb ?_)
        rw [allSome_get hargs] at hR
        obtain ⟨hl, hget⟩ := RepL.get hR
        have hsl := frame_slots (P := P) (S := free S0 n0 noH μ st.so W) (μ := μ) (so := st.so) (W := W) (nt := fn.ntmps) (vs := args) (us := us) (by rw [← hl, Array.length_toList]) (fun j v hj => by
          obtain ⟨u, hu, hr⟩ := hget j v hj
          exact ⟨u, by simpa using hu, hr⟩)
        have h0 : Rel P S0 n0 w0 noH { tm := frame fn.ntmps args, sus := st.tm :: st.sus, so := st.so } { tmps := us ++ Array.replicate (fn.ntmps - us.size) undef, defers := [] } W (a.tmps :: A) μ :=
          ⟨h.below, h.old, h.s0, fun b hb => hb.elim, rfl, hsl.1, hsl.2, ⟨by simp [h.sus.1], fun q l t hl ht => by
            cases q with
            | zero =>
              obtain rfl : st.tm = l := by simpa using hl
              obtain rfl : a.tmps = t := by simpa using ht
              exact ⟨h.size, h.slots⟩
            | succ q => exact h.sus.2 q l t (by simpa using hl) (by simpa using ht)⟩, h.obj, h.inj⟩
        have ha : ({ tmps := a.tmps, defers := [] } : Act) = a := by
          have := h.defers
          cases a
          simp at this
          simp [this]
        have fin : ∀ st2 (a' : Act) W' μ', Rel P S0 n0 w0 noH st2 a' W' (a.tmps :: A) μ' → endB P fn.results.toList st2 = some (vs, st') → a'.defers = [] ∧ ∃ v, (results fn a'.tmps).run P W' = .ok v W' ∧ ∃ v_1, Ending.returned v = .returned v_1 ∧ ∃ μ', Rel P S0 n0 w0 noH st' a W' A μ' ∧ Rep3 P (free S0 n0 noH μ' st'.so W') μ' st'.so W' (tupB vs) v_1 := fun st2 a' W' μ' h' he' => by
          obtain ⟨v, h1, h2, h3⟩ := endB_run h' he' rfl
          rw [ha] at h2
          exact ⟨h'.defers, v, h1, v, rfl, μ', h2, h3⟩
        exact evC_run hD hdr hB hw c _ _ W _ _ _ _ _ h0 hc (fun st' a' W' μ' h' he' => fin st' a' W' μ' h' he') (fun id st' a' W' μ' h' he' => by simp at he') (fun st' a' W' μ' h' he' => fin st' a' W' μ' h' he')
      · simp at hc
    · simp at hc
  · simp at hc
theorem ev_sound {B : Nat} {w00 : World} (hB0 : B ≤ w00.heap.size) {G : Given} (hG : GivenOk P B w00 G) (hdr : ∀ D, Sound P B w00 D → DrawOk P B w00 D) : ∀ n, Sound P B w00 (ev P G n)
  | 0 => ⟨fun f ps rs h => by simp [ev] at h, fun f xs base st vs st' h => by simp [ev] at h⟩
  | n + 1 => ⟨callA_sound hB0 hG (ev_sound hB0 hG hdr n) (hdr _ (ev_sound hB0 hG hdr n)) (n + 1), callB_sound hG (ev_sound hB0 hG hdr n) (hdr _ (ev_sound hB0 hG hdr n)) (n + 1)⟩
end
end Go.Proofs.YtlhjljplfmmoaaaGreatDoor.Ev
/- Soundness of the evaluator, part 23: operations that may change places. -/
namespace Go.Proofs.YtlhjljplfmmoaaaGreatDoor.Ev
open Go Go.RowKit Go.Lib
section
variable {P : Program} {D : Dat} {base : Nat} {ops : Array Oper}
theorem rdArgs_congr {ρ ρ' : Operand → Option TV} : ∀ {l : List Operand}, (∀ x, x ∈ l → ρ x = ρ' x) → rdArgs ρ l = rdArgs ρ' l
  | [], _ => rfl
  | x :: t, h => by simp only [rdArgs, h x List.mem_cons_self, rdArgs_congr fun y hy => h y (List.mem_cons_of_mem _ hy)]
theorem rdParts_congr {ρ ρ' : Operand → Option TV} : ∀ {l : List (Nat × Operand)}, (∀ x, x ∈ l → ρ x.2 = ρ' x.2) → rdParts ρ l = rdParts ρ' l
  | [], _ => rfl
  | (i, x) :: t, h => by simp only [rdParts, h (i, x) List.mem_cons_self, rdParts_congr fun y hy => h y (List.mem_cons_of_mem _ hy)]
theorem call_args_mem {c : Call} {x : Operand} (h : x ∈ c.args.toList) : x ∈ c.operands := by
  have h' : x ∈ c.args := by simpa using h
  unfold Call.operands
  split <;> simp [h']
theorem evVal_congr {callA : FuncId → List PV → Option (List PV)} {ρ ρ' : Operand → Option TV} {so : Store} {op : Op} (h : ∀ x ∈ op.operands, ρ x = ρ' x) : evVal P callA ρ so op = evVal P callA ρ' so op := by
  have hp : ∀ ps : Array (Nat × Operand), (∀ x ∈ ps.map (·.2), ρ x = ρ' x) → rdParts ρ ps.toList = rdParts ρ' ps.toList := fun ps hps => rdParts_congr fun x hx => hps _ (Array.mem_map.2 ⟨x, by simpa using hx, rfl⟩)
  cases op <;> simp only [Op.operands] at h <;> simp only [evVal]
  case build t ps => rw [hp ps fun x hx => h x (by simpa using hx)]
  case buildSlice t n ps => rw [hp ps fun x hx => h x (by simpa using hx)]
  case call c => rw [rdArgs_congr fun x hx => h x (call_args_mem hx)]
  case slice t x lo hi mx => cases lo <;> cases hi <;> cases mx <;> simp_all [rdOpt]
  all_goals (first | rfl | (simp_all; done))
/-- What an operation that may change places does: the store behind it, and what it yields. -/
def effD (P : Program) (D : Dat) (base : Nat) (o : Oper) (tm : List TV) (so : Store) : Option (Store × TV) := match o.op with
  | .store t p x => match rdv tm p, rdv tm x with
    | some a, some v => match rowsIn v with
      | [] => (storeSo P so t a v).map fun so1 => (so1, .undef)
      | _ :: _ => none
    | _, _ => none
  | .alloc _ => o.dst.map fun d => (so, .ptr (base + d) 0 0)
  | .call c => match c.callee with
    | .value (.func f) => match D.modeB f with
      | true => none
      | false => (evCall P (callD D (argRows (rdArgs (rdv tm) c.args.toList))) so c.argTypes.toList (rdArgs (rdv tm) c.args.toList) c.callee).map fun v => (so, v)
    | .builtin b => (bltTV P b c.argTypes.toList (rdArgs (rdv tm) c.args.toList)).map fun v => (so, v)
    | _ => none
  | op => (evVal P D.callA (rdv tm) so op).map fun v => (so, v)
def actD (P : Program) (D : Dat) (base : Nat) (ops : Array Oper) (o : Oper) (tm : List TV) (so : Store) : Option (Store × TV) := match wantedE ops tm o.guard with
  | none => none
  | some true => effD P D base o tm so
  | some false => some (so, .skip)
def aft (st : St) (o : Oper) (p : Store × TV) : St := (st.withSo p.1).put o.dst p.2
theorem withSo_self (st : St) : st.withSo st.so = st := rfl
theorem putO_map (st : St) (o : Oper) (v : Option TV) : putO st o.dst v = (v.map fun v => (st.so, v)).map (aft st o) := by
  cases v <;> rfl
theorem evStepD_eff {st : St} {o : Oper} (hc : cls D.modeB o ≤ 2) : evStepD P D base o st = (effD P D base o st.tm st.so).map (aft st o) := by
  obtain ⟨dst, op, ty, pos, after, guard⟩ := o
  unfold evStepD evOpD effD
  cases op <;> simp only [] <;> (try exact putO_map st ⟨dst, _, ty, pos, after, guard⟩ (evVal P D.callA (rdv st.tm) st.so _))
  case store t p x =>
    unfold storeD
    cases rdv st.tm p <;> cases rdv st.tm x <;> try rfl
    rename_i a v
    simp only
    cases hr : rowsIn v with
    | nil =>
      simp only
      cases storeSo P st.so t a v <;> rfl
    | cons _ _ => rfl
  case alloc t => cases dst <;> rfl
  case call c =>
    cases hcal : c.callee with
    | builtin b =>
      simp only [evCallS]
      have hb : evBlt P st base dst c.argTypes.toList (rdArgs (rdv st.tm) c.args.toList) b = putO st dst (bltTV P b c.argTypes.toList (rdArgs (rdv st.tm) c.args.toList)) := by
        cases b <;> first | (simp [cls, hcal] at hc; done) | rfl
      rw [hb]
      exact putO_map st ⟨dst, .call c, ty, pos, after, guard⟩ _
    | value f =>
      cases f with
      | func f =>
        simp only
        cases hm : D.modeB f with
        | true => rfl
        | false =>
          simp only
          have := putO_map st ⟨dst, .call c, ty, pos, after, guard⟩ (evCall P (callD D (argRows (rdArgs (rdv st.tm) c.args.toList))) st.so c.argTypes.toList (rdArgs (rdv st.tm) c.args.toList) (Callee.value (Operand.func f)))
          simpa [hcal] using this
      | _ => simp [cls, hcal] at hc
    | invoke r m => simp [cls, hcal] at hc
theorem rdv_congr {tm tm' : List TV} {x : Operand} (h : ∀ t, x = .tmp t → nth tm t = nth tm' t) : rdv tm x = rdv tm' x := by
  cases x with
  | tmp t => simp only [rdv, h t rfl]
  | _ => rfl
theorem mem_looks {o : Oper} {x : Operand} {t : Tmp} (hx : x ∈ o.op.operands) (ht : x = .tmp t) : t ∈ o.looksAt ops := by
  subst ht
  exact List.mem_append_left _ (List.mem_filterMap.2 ⟨.tmp t, by simpa using hx, rfl⟩)
theorem actD_congr {o : Oper} {tm tm' : List TV} {so : Store} (h : ∀ t, t ∈ o.looksAt ops → nth tm t = nth tm' t) : actD P D base ops o tm so = actD P D base ops o tm' so := by
  have hr : ∀ x, x ∈ o.op.operands → rdv tm x = rdv tm' x := fun x hx => rdv_congr fun t ht => h t (mem_looks hx ht)
  have hw : wantedE ops tm o.guard = wantedE ops tm' o.guard := by
    unfold wantedE
    cases hg : o.guard with
    | none => rfl
    | some jb =>
      obtain ⟨j, b⟩ := jb
      simp only
      cases hd : guardDst ops j with
      | none => rfl
      | some t =>
        simp only
        rw [h t]
        refine List.mem_append_right _ ?_
        rw [hg]
        unfold guardDst at hd
        simp [hd]
  unfold actD
  rw [hw]
  have he : effD P D base o tm so = effD P D base o tm' so := by
    obtain ⟨dst, op, ty, pos, after, guard⟩ := o
    unfold effD
    simp only at hr
    cases op <;> simp only [] <;> (try (rw [evVal_congr hr]; done))
    case store t p x => rw [hr p (by simp [Op.operands]), hr x (by simp [Op.operands])]
    case call c => rw [rdArgs_congr fun x hx => hr x (by simpa [Op.operands] using call_args_mem hx)]
  rw [he]
theorem map_pair {so so1 : Store} {v : Option TV} {r : TV} (h : (v.map fun v => (so, v)) = some (so1, r)) : so1 = so ∧ v = some r := by
  cases v with
  | none => simp at h
  | some v =>
    simp at h
    exact ⟨h.1.symm, by rw [h.2]⟩
theorem actD_one {o : Oper} {tm : List TV} {so so1 : Store} {v : TV} (hc : cls D.modeB o ≤ 1) (h : actD P D base ops o tm so = some (so1, v)) : so1 = so := by
  unfold actD at h
  split at h
  · simp at h
  · obtain ⟨dst, op, ty, pos, after, guard⟩ := o
    unfold effD at h
    cases op <;> simp only [] at h <;> first | exact (map_pair h).1 | skip
    case store t p x => simp [cls] at hc
    case alloc t => cases dst <;> simp at h; exact h.1.symm
    case call c =>
      split at h
      · split at h
        · simp at h
        · exact (map_pair h).1
      · exact (map_pair h).1
      · simp at h
  · simp at h
    exact h.1.symm
theorem actD_zero {o : Oper} {tm : List TV} {so so1 : Store} {v : TV} (hc : cls D.modeB o = 0) (h : actD P D base ops o tm so = some (so1, v)) : ∀ so', actD P D base ops o tm so' = some (so', v) := by
  intro so'
  unfold actD at *
  split at h
  · simp at h
  · rename_i hw
    obtain ⟨dst, op, ty, pos, after, guard⟩ := o
    unfold effD at *
    cases op <;> simp only [] at h ⊢ <;> first | (simp [cls] at hc; done) | (have := (map_pair h).2; simp only [evVal] at this ⊢; first | (rw [this]; rfl) | (simp at this; done)) | skip
    case alloc t => cases dst <;> simp at h ⊢; exact h.2
    case call c =>
      split at h
      · rename_i f hf
        simp only [cls, hf] at hc
        split at h
        · simp at h
        · rename_i hm
          rw [hm] at hc
          simp at hc
      · rename_i b hb
        rw [(map_pair h).2]
        rfl
      · simp at h
  · simp at h
    rw [h.2]
end
end Go.Proofs.YtlhjljplfmmoaaaGreatDoor.Ev
/- Soundness of the evaluator, part 24: an operation that may be drawn is moved to the head. -/
namespace Go.Proofs.YtlhjljplfmmoaaaGreatDoor.Ev
open Go Go.RowKit Go.Lib
section
variable {P : Program} {D : Dat} {base : Nat} {ops : Array Oper}
def doD (P : Program) (D : Dat) (base : Nat) (ops : Array Oper) (o : Oper) (st : St) : Option St := match wantedE ops st.tm o.guard with
  | none => none
  | some true => evStepD P D base o st
  | some false => some (st.put o.dst .skip)
theorem evOps_cons {R : Type} {o : Oper} {rest : List Oper} {st : St} {k : St → Option R} : evOps (evStepD P D base) ops (o :: rest) st k = match doD P D base ops o st with | some st1 => evOps (evStepD P D base) ops rest st1 k | none => none := by
  simp only [evOps, doD]
  cases wantedE ops st.tm o.guard with
  | none => rfl
  | some b => cases b <;> simp only <;> (try cases evStepD P D base o st) <;> rfl
theorem doD_act {o : Oper} {st : St} (hc : cls D.modeB o ≤ 2) : doD P D base ops o st = (actD P D base ops o st.tm st.so).map (aft st o) := by
  unfold doD actD
  cases wantedE ops st.tm o.guard with
  | none => rfl
  | some b =>
    cases b with
    | true => exact evStepD_eff hc
    | false => rfl
theorem nth_setN (l : List TV) (d t : Nat) (v : TV) (h : t ≠ d) : nth (setN l d v) t = nth l t := by
  induction l generalizing d t with
  | nil => rfl
  | cons x l ih =>
    cases d with
    | zero =>
      cases t with
      | zero => exact absurd rfl h
      | succ t => rfl
    | succ d =>
      cases t with
      | zero => rfl
      | succ t => exact ih d t (by omega)
theorem setN_comm (l : List TV) (d e : Nat) (v w : TV) (h : d ≠ e) : setN (setN l d v) e w = setN (setN l e w) d v := by
  apply List.ext_getElem?
  intro i
  rw [getElem?_setN, getElem?_setN, getElem?_setN, getElem?_setN, length_setN, length_setN]
  by_cases h1 : i = e
  · subst h1
    by_cases h2 : i < l.length
    · rw [if_pos ⟨rfl, h2⟩, if_neg (fun h3 => h h3.1.symm), if_pos ⟨rfl, h2⟩]
    · rw [if_neg (fun h3 => h2 h3.2), if_neg (fun h3 => h h3.1.symm), if_neg (fun h3 => h h3.1.symm), if_neg (fun h3 => h2 h3.2)]
  · rw [if_neg (fun h3 => h1 h3.1)]
    by_cases h2 : i = d ∧ d < l.length
    · rw [if_pos h2, if_pos h2]
    · rw [if_neg h2, if_neg h2, if_neg (fun h3 => h1 h3.1)]
theorem put_comm (st : St) (x y : Option Tmp) (v w : TV) (h : ∀ d, x = some d → y ≠ some d) : (st.put x v).put y w = (st.put y w).put x v := by
  cases x with
  | none => cases y <;> rfl
  | some d =>
    cases y with
    | none => rfl
    | some e =>
      simp only [St.put]
      rw [setN_comm _ _ _ _ _ (fun he => h d rfl (by rw [he]))]
theorem nth_put {st : St} {x : Option Tmp} {v : TV} {t : Tmp} (h : ∀ d, x = some d → t ≠ d) : nth (st.put x v).tm t = nth st.tm t := by
  cases x with
  | none => rfl
  | some d => exact nth_setN _ _ _ _ (h d rfl)
theorem put_so (st : St) (x : Option Tmp) (v : TV) : (st.put x v).so = st.so := by cases x <;> rfl
theorem put_withSo (st : St) (x : Option Tmp) (v : TV) (so : Store) : (st.put x v).withSo so = (st.withSo so).put x v := by cases x <;> rfl
theorem aft_so (st : St) (o : Oper) (p : Store × TV) : (aft st o p).so = p.1 := by
  unfold aft
  rw [put_so]
  rfl
theorem aft_nth {st : St} {o : Oper} {p : Store × TV} {t : Tmp} (h : ∀ d, o.dst = some d → t ≠ d) : nth (aft st o p).tm t = nth st.tm t := by
  unfold aft
  rw [nth_put h]
  rfl
theorem swapD {x y : Oper} (hok : okPair D.modeB ops x y = true) {st s1 s2 : St} (h1 : doD P D base ops x st = some s1) (h2 : doD P D base ops y s1 = some s2) :
    ∃ s1', doD P D base ops y st = some s1' ∧ doD P D base ops x s1' = some s2 := by
  unfold okPair at hok
  simp only [Bool.and_eq_true] at hok
  obtain ⟨hap, hcl⟩ := hok
  obtain ⟨a1, a2, a3⟩ := Oper.apart_spec hap
  have hx2 : cls D.modeB x ≤ 2 := by simp only [clsOk, Bool.or_eq_true, Bool.and_eq_true, beq_iff_eq, decide_eq_true_eq] at hcl; omega
  have hy2 : cls D.modeB y ≤ 2 := by simp only [clsOk, Bool.or_eq_true, Bool.and_eq_true, beq_iff_eq, decide_eq_true_eq] at hcl; omega
  rw [doD_act hx2] at h1
  obtain ⟨⟨so1, v1⟩, e1, rfl⟩ := Option.map_eq_some_iff.1 h1
  rw [doD_act hy2, aft_so, actD_congr (tm' := st.tm) (fun t ht => aft_nth fun d hd he => a1 d hd (he ▸ ht))] at h2
  obtain ⟨⟨so2, v2⟩, e2, rfl⟩ := Option.map_eq_some_iff.1 h2
  dsimp only at e2
  have key : ∃ so', actD P D base ops y st.tm st.so = some (so', v2) ∧ actD P D base ops x st.tm so' = some (so2, v1) := by
    simp only [clsOk, Bool.or_eq_true, Bool.and_eq_true, beq_iff_eq, decide_eq_true_eq] at hcl
    rcases hcl with (⟨c1, c2⟩ | ⟨c1, c2⟩) | ⟨c1, c2⟩
    · obtain rfl := actD_one (by omega) e1
      exact ⟨so2, e2, actD_zero c1 e1 so2⟩
    · have h3 := actD_zero c1 e2
      have h4 := actD_one (by omega) e2
      subst h4
      exact ⟨st.so, h3 st.so, e1⟩
    · obtain rfl := actD_one c1 e1
      obtain rfl := actD_one c2 e2
      exact ⟨_, e2, e1⟩
  obtain ⟨so', k1, k2⟩ := key
  refine ⟨aft st y (so', v2), by rw [doD_act hy2, k1]; rfl, ?_⟩
  rw [doD_act hx2, aft_so, actD_congr (tm' := st.tm) (fun t ht => aft_nth fun d hd he => a3 d hd (he ▸ ht)), k2]
  simp only [Option.map_some, Option.some.injEq]
  unfold aft
  simp only [put_withSo]
  exact (put_comm _ _ _ _ _ (fun d hd he => a2 d he hd)).trans rfl
theorem bubble {R : Type} {y : Oper} {post : List Oper} {k : St → Option R} {r : R} : ∀ (pre : List Oper) (st : St), (∀ x, x ∈ pre → okPair D.modeB ops x y = true) → evOps (evStepD P D base) ops (pre ++ y :: post) st k = some r →
    evOps (evStepD P D base) ops (y :: (pre ++ post)) st k = some r := by
  intro pre
  induction pre with
  | nil => intro st _ h; exact h
  | cons x pre ih =>
    intro st hok h
    rw [List.cons_append, evOps_cons] at h
    split at h
    · rename_i s1 h1
      have h2 := ih s1 (fun x' hx' => hok x' (List.mem_cons_of_mem _ hx')) h
      rw [evOps_cons] at h2
      split at h2
      · rename_i s2 h3
        obtain ⟨s1', h4, h5⟩ := swapD (hok x List.mem_cons_self) h1 h3
        rw [evOps_cons, h4]
        simp only [List.cons_append]
        rw [evOps_cons, h5]
        exact h2
      · simp at h2
    · simp at h
end
section
variable {P : Program} {S0 : Nat → Prop} {n0 : Nat} {w0 : World} {st st1 : St} {a : Act} {W W' : World} {A : List (Array Value)} {μ : Mu}
/-- A variable that was laid ahead gets its block. -/
theorem Rel.bind (h : Rel P S0 n0 w0 noH st a W A μ) {key : Nat} {cs : List TV} (hk : st.so.get key = some (.box cs)) (hm : μ key = none) (hsz : W'.heap.size = W.heap.size + 1) (hB : Below W.heap.size W W')
    (ho : RepO P (free S0 n0 noH (fun j => if j = key then some (W.heap.size, 0) else μ j) st.so W') (fun j => if j = key then some (W.heap.size, 0) else μ j) st.so W' W.heap.size 0 (.box cs)) :
    Rel P S0 n0 w0 noH st a W' A (fun j => if j = key then some (W.heap.size, 0) else μ j) := by
  have hS : Same (free S0 n0 noH μ st.so W) (free S0 n0 noH (fun j => if j = key then some (W.heap.size, 0) else μ j) st.so W') W W' := by
    refine ⟨fun b ⟨h1, h2, h3, h4⟩ => ⟨⟨h1, h2, by omega, fun j c hj hc => ?_⟩, fun hlt => hB.block b hlt⟩⟩
    by_cases hjk : j = key
    · subst hjk
      simp only [if_true, Option.some.injEq] at hc
      subst hc
      simp only
      omega
    · simp only [hjk, if_false] at hc
      exact h4 j c hj hc
  have hT : Turns P (free S0 n0 noH μ st.so W) (free S0 n0 noH (fun j => if j = key then some (W.heap.size, 0) else μ j) st.so W') μ (fun j => if j = key then some (W.heap.size, 0) else μ j) st.so st.so W W' id := by
    intro v u hr
    refine hr.keep hS fun j hj => ⟨?_, fun e xs hx => ⟨xs, hx, rfl⟩, fun cs hx => ⟨cs, hx⟩⟩
    have hjk : j ≠ key := by
      rintro rfl
      cases v <;> simp only [ref1, List.mem_singleton, List.not_mem_nil] at hj
      · subst hj
        obtain ⟨e, xs, s, h1, _⟩ := hr
        rw [hk] at h1
        simp at h1
      · subst hj
        obtain ⟨b, cap, h1, _⟩ := hr
        rw [hm] at h1
        simp at h1
    simp [hjk]
  have hs3 : ∀ v u, Rep3 P (free S0 n0 noH μ st.so W) μ st.so W v u → Rep3 P _ _ _ W' v u := fun v u hr => by
    have := hT.three hr
    rwa [map3_id] at this
  refine ⟨h.below.trans (hB.mono h.old), by have := h.old; omega, h.s0, fun b hb => hb.elim, h.defers, h.size, fun i v hv => ?_, ⟨h.sus.1, fun q l t hl ht => ⟨(h.sus.2 q l t hl ht).1, fun i v hv => ?_⟩⟩, fun j o hj c hc => ?_, fun j j' c c' hj hj' hc hc' he => ?_⟩
  · obtain ⟨u, hu, hr⟩ := h.slots i v hv
    exact ⟨u, hu, hs3 _ _ hr⟩
  · obtain ⟨u, hu, hr⟩ := (h.sus.2 q l t hl ht).2 i v hv
    exact ⟨u, hu, hs3 _ _ hr⟩
  · by_cases hjk : j = key
    · subst hjk
      simp only [if_true, Option.some.injEq] at hc
      subst hc
      rw [hk] at hj
      obtain rfl := Option.some.inj hj
      exact ⟨h.old, by simp only; omega, ho⟩
    · simp only [hjk, if_false] at hc
      obtain ⟨h1, h2, h3⟩ := h.obj j o hj c hc
      have := RepO.turn h3 hT hS (hB.block _ h2)
      exact ⟨h1, by omega, by cases o <;> simpa [SO.map] using this⟩
  · by_cases hjk : j = key <;> by_cases hjk' : j' = key
    · rw [hjk, hjk']
    · subst hjk
      simp only [if_true, Option.some.injEq] at hc
      subst hc
      simp only [hjk', if_false] at hc'
      obtain ⟨o, ho'⟩ := Option.isSome_iff_exists.1 hj'
      have := (h.obj j' o ho' c' hc').2.1
      simp only at he
      omega
    · subst hjk'
      simp only [if_true, Option.some.injEq] at hc'
      subst hc'
      simp only [hjk, if_false] at hc
      obtain ⟨o, ho'⟩ := Option.isSome_iff_exists.1 hj
      have := (h.obj j o ho' c hc).2.1
      simp only at he
      omega
    · simp only [hjk, hjk', if_false] at hc hc'
      exact h.inj j j' c c' hj hj' hc hc' he
end
end Go.Proofs.YtlhjljplfmmoaaaGreatDoor.Ev
/- Soundness of the evaluator, part 25: one operation of a region that draws its order. -/
namespace Go.Proofs.YtlhjljplfmmoaaaGreatDoor.Ev
open Go Go.RowKit Go.Lib
/-- The variables that are still to come. -/
def Pend (P : Program) (base : Nat) (μ : Mu) (so : Store) (rem : List Oper) : Prop :=
  ∀ o, o ∈ rem → ∀ ty d, o.op = .alloc ty → o.dst = some d → ∃ z, zeroT P ty = some z ∧ oneAll z.cells = true ∧ so.get (base + d) = some (.box z.cells) ∧ μ (base + d) = none
section
variable {P : Program} {S0 : Nat → Prop} {n0 : Nat} {w0 : World} {st st1 : St} {a : Act} {W W' : World} {A : List (Array Value)} {μ : Mu} {base : Nat}
theorem allocDsts_mem : ∀ {l : List Oper} {o : Oper} {ty : TypeId} {d : Nat}, o ∈ l → o.op = .alloc ty → o.dst = some d → d ∈ allocDsts l := by
  intro l
  induction l with
  | nil => intro o ty d h; simp at h
  | cons x l ih =>
    intro o ty d h ho hd
    unfold allocDsts
    rcases List.mem_cons.1 h with rfl | h
    · rw [ho, hd]
      exact List.mem_cons_self
    · have := ih h ho hd
      split
      · exact List.mem_cons_of_mem _ this
      · exact this
theorem killAll_run : ∀ (ds : List Nat) {st : St}, Rel P S0 n0 w0 noH st a W A μ → Rel P S0 n0 w0 noH (killAll base ds st) a W A μ ∧ (∀ d, d ∈ ds → (killAll base ds st).so.get (base + d) = none) ∧ ∀ k, st.so.get k = none → (killAll base ds st).so.get k = none := by
  intro ds
  induction ds with
  | nil => intro st h; exact ⟨h, fun d hd => by simp at hd, fun k hk => hk⟩
  | cons d ds ih =>
    intro st h
    obtain ⟨h1, h2, h3⟩ := ih (h.kill (base + d))
    refine ⟨h1, fun e he => ?_, fun k hk => h3 k ?_⟩
    · rcases List.mem_cons.1 he with rfl | he
      · exact h3 _ (kill_none st _)
      · exact h2 e he
    · have := kill_get st (base + d) k
      rw [hk] at this
      cases hh : (st.kill (base + d)).so.get k with
      | none => rfl
      | some _ => rw [hh] at this; split at this <;> simp at this
theorem layAll_run : ∀ (l : List Oper) {st : St} {μ : Mu}, Rel P S0 n0 w0 noH st a W A μ → nodup (allocDsts l) = true → (∀ d, d ∈ allocDsts l → st.so.get (base + d) = none) → layAll P base l st = some st1 →
    ∃ μ', Rel P S0 n0 w0 noH st1 a W A μ' ∧ Pend P base μ' st1.so l ∧ ∀ k, (∀ d, d ∈ allocDsts l → k ≠ base + d) → st1.so.get k = st.so.get k ∧ μ' k = μ k := by
  intro l
  induction l with
  | nil =>
    intro st μ h _ _ hl
    obtain rfl := Option.some.inj hl
    exact ⟨μ, h, fun o ho => by simp at ho, fun k _ => ⟨rfl, rfl⟩⟩
  | cons o l ih =>
    intro st μ h hnd hne hl
    unfold layAll at hl
    have skip : (∀ ty, o.op ≠ .alloc ty) → layAll P base l st = some st1 → ∃ μ', Rel P S0 n0 w0 noH st1 a W A μ' ∧ Pend P base μ' st1.so (o :: l) ∧ ∀ k, (∀ d, d ∈ allocDsts (o :: l) → k ≠ base + d) → st1.so.get k = st.so.get k ∧ μ' k = μ k := fun hop hl => by
      have hA : allocDsts (o :: l) = allocDsts l := by
        rw [allocDsts]
        split
        · rename_i ty _ hty _; exact absurd hty (hop ty)
        · rfl
      rw [hA] at hnd hne ⊢
      obtain ⟨μ', h1, h2, h3⟩ := ih h hnd hne hl
      refine ⟨μ', h1, fun o' ho' ty d hty hd => ?_, h3⟩
      rcases List.mem_cons.1 ho' with rfl | ho'
      · exact absurd hty (hop ty)
      · exact h2 o' ho' ty d hty hd
    split at hl
    · rename_i ty hop
      split at hl
      · rename_i d z hd hz
        split at hl
        · rename_i hone
          have hA : allocDsts (o :: l) = d :: allocDsts l := by rw [allocDsts, hop, hd]
          rw [hA] at hnd hne
          simp only [nodup, Bool.and_eq_true, Bool.not_eq_true', List.contains_eq_mem, decide_eq_false_iff_not] at hnd
          have hk := hne d List.mem_cons_self
          have h1 := h.newNone (base + d) hk (.box z.cells)
          obtain ⟨μ', g1, g2, g3⟩ := ih h1 hnd.2 (fun e he => by
            simp only [St.withSo]
            rw [get_ins, if_neg]
            · exact hne e (List.mem_cons_of_mem _ he)
            · intro he'
              have : e = d := by omega
              subst this
              exact hnd.1 he) hl
          obtain ⟨q1, q2⟩ := g3 (base + d) (fun e he he' => by
            have : e = d := by omega
            subst this
            exact hnd.1 he)
          refine ⟨μ', g1, fun o' ho' ty' d' hty hd' => ?_, fun k hk' => ?_⟩
          · rcases List.mem_cons.1 ho' with rfl | ho'
            · rw [hop] at hty
              rw [hd] at hd'
              obtain rfl := Op.alloc.inj hty
              obtain rfl := Option.some.inj hd'
              refine ⟨z, hz, hone, ?_, ?_⟩
              · rw [q1]
                simp only [St.withSo]
                rw [get_ins, if_pos rfl]
              · rw [q2]
                simp
            · exact g2 o' ho' ty' d' hty hd'
          · obtain ⟨q3, q4⟩ := g3 k fun e he => hk' e (by rw [hA]; exact List.mem_cons_of_mem _ he)
            have hkd := hk' d (by rw [hA]; exact List.mem_cons_self)
            refine ⟨?_, ?_⟩
            · rw [q3]
              simp only [St.withSo]
              rw [get_ins, if_neg hkd]
            · rw [q4]
              simp [hkd]
        · simp at hl
      · simp at hl
    · rename_i hop
      exact skip (fun ty hty => hop ty hty) hl
theorem storeSo_ins {so so1 : Store} {t : TypeId} {p v : TV} (h : storeSo P so t p v = some so1) : ∃ k i off o, p = .ptr k i off ∧ so1 = so.ins k o := by
  unfold storeSo at h
  split at h
  · rename_i k i off
    split at h
    · split at h
      · split at h
        · exact ⟨k, i, off, _, rfl, (Option.some.inj h).symm⟩
        · simp at h
      · split at h
        · split at h
          · unfold rowO at h
            split at h
            · exact ⟨k, i, off, _, rfl, (Option.some.inj h).symm⟩
            · simp at h
          · simp at h
        · simp at h
      · simp at h
    · simp at h
  · simp at h
theorem argRows_none : ∀ {xs : List (Option TV)}, argRows xs = false → rowsOf xs = [] := by
  intro xs
  induction xs with
  | nil => intro _; rfl
  | cons v xs ih =>
    intro h
    cases v with
    | none => exact ih h
    | some v =>
      simp only [argRows] at h
      split at h
      · rename_i hr
        simp only [rowsOf, hr, ih h, List.append_nil]
      · simp at h
theorem Pend.tail {μ : Mu} {so : Store} {o : Oper} {rem : List Oper} (h : Pend P base μ so (o :: rem)) : Pend P base μ so rem := fun o' ho' => h o' (List.mem_cons_of_mem _ ho')
theorem op_runD {rem : List Oper} (h : Rel P S0 n0 w0 noH st a W A μ) {D : Dat} {B : Nat} {w00 : World} (hD : Sound P B w00 D) (hB : B ≤ n0) (hw : Below B w00 w0) {o : Oper} (hP : Pend P base μ st.so (o :: rem))
    (h3 : cls D.modeB o ≤ 2 ∨ ∀ o', o' ∈ rem → ∀ ty d, o'.op = .alloc ty → o'.dst ≠ some d) (hdis : ∀ o', o' ∈ rem → ∀ ty ty' d, o.op = .alloc ty → o.dst = some d → o'.op = .alloc ty' → o'.dst ≠ some d)
    (hs : evStepD P D base o st = some st1) {K : Act → World → Prop} {Q : Exit → Act → World → Prop} (hK : ∀ a' W' μ', Rel P S0 n0 w0 noH st1 a' W' A μ' → Pend P base μ' st1.so rem → K a' W') : o.wp P a W K Q := by
  unfold evStepD at hs
  have hput : ∀ v, (st.put o.dst v).so = st.so := fun v => put_so st o.dst v
  have plain : (∀ c, o.op ≠ .call c) → putO st o.dst (evVal P D.callA (rdv st.tm) st.so o.op) = some st1 → o.wp P a W K Q := fun hc hs => by
    obtain ⟨r, hr, rfl⟩ := putO_some hs
    obtain ⟨z, W', h1, h2, h3⟩ := val_run h (fun hb => hb) hc hr
    exact wp_value h1 (hK _ _ μ (h2.put o.dst h3) (by rw [hput]; exact hP.tail))
  unfold evOpD at hs
  split at hs
  · rename_i t p x hop
    unfold putU at hs
    split at hs
    · rename_i st2 h2
      obtain rfl := Option.some.inj hs
      unfold storeD at h2
      split at h2
      · rename_i pv xv hp hx
        split at h2
        · rename_i hr
          obtain ⟨so1, g1, rfl⟩ := withO_some h2
          obtain ⟨W', g2, g3⟩ := storeSo_run h (h.eval hp) (h.eval hx) (fun _ _ _ _ _ _ _ => hr) g1
          refine wp_skipped (W' := W') (by simp [execOp, hop, g2]) (hK _ _ μ (g3.put o.dst (v := .undef) (u := Go.undef) trivial) ?_)
          rw [put_so]
          obtain ⟨k, i, off, ob, rfl, rfl⟩ := storeSo_ins g1
          obtain ⟨b, cap, hm, _⟩ := h.eval hp
          intro o' ho' ty d hty hd
          obtain ⟨z, q1, q2, q3, q4⟩ := hP.tail o' ho' ty d hty hd
          refine ⟨z, q1, q2, ?_, q4⟩
          simp only [St.withSo]
          rw [get_ins, if_neg]
          · exact q3
          · intro he
            rw [he, hm] at q4
            simp at q4
        · simp at h2
      · simp at h2
    · simp at hs
  · rename_i t hop
    split at hs
    · rename_i d hd
      obtain rfl := Option.some.inj hs
      obtain ⟨z, q1, q2, q3, q4⟩ := hP o List.mem_cons_self t d hop hd
      obtain ⟨u, hu, hof, _⟩ := run_zeroValue (P := P) (W := W) q1
      obtain ⟨c1, c2⟩ := cells_rep (ofVal_rep (P := P) (S := free S0 n0 noH (fun j => if j = base + d then some (W.heap.size, 0) else μ j) st.so (W.alloc (.cells u.cells t))) (μ := fun j => if j = base + d then some (W.heap.size, 0) else μ j) (so := st.so) (W := W.alloc (.cells u.cells t)) hof).one q2
      have hb := h.bind (W' := W.alloc (.cells u.cells t)) q3 q4 (alloc_size W _) (alloc_below W _) ⟨u.cells, t, alloc_cells W _, c1, fun j c hj => by
        obtain ⟨w, hw, hr, ho⟩ := c2 j c hj
        exact ⟨w, hw, ho, hr⟩⟩
      refine wp_value (z := .pointer (some ⟨W.heap.size, 0, none⟩)) (W' := W.alloc (.cells u.cells t)) (by simp [execOp, hop, Instr.alloc, hu, newVar_run]) ?_
      rw [hd]
      refine hK _ _ _ (hb.put (some d) (v := .ptr (base + d) 0 0) ⟨W.heap.size, 0, by simp, .inl ⟨_, q3, rfl, rfl⟩⟩) ?_
      rw [put_so]
      intro o' ho' ty' d' hty hd'
      obtain ⟨z', r1, r2, r3, r4⟩ := hP.tail o' ho' ty' d' hty hd'
      have hdd : d' ≠ d := by
        rintro rfl
        exact hdis o' ho' t ty' d' hop hd hty hd'
      refine ⟨z', r1, r2, r3, ?_⟩
      show (if base + d' = base + d then some (W.heap.size, 0) else μ (base + d')) = none
      rw [if_neg (fun he => hdd (Nat.add_left_cancel he))]
      exact r4
    · simp at hs
  · rename_i c hop
    split at hs
    · rename_i f hc
      split at hs
      · simp at hs
      · obtain ⟨r, hr, rfl⟩ := putO_some hs
        rw [hc] at hr
        simp only [evCall, callO] at hr
        split at hr
        · rename_i ps hps
          unfold tupO at hr
          split at hr
          · rename_i rs hrs
            obtain rfl := Option.some.inj hr
            unfold callD at hrs
            split at hrs
            · rename_i rs' hcall
              have hx : RepL P (free S0 n0 noH μ st.so W) μ st.so W (rdArgs (rdv st.tm) c.args.toList) (c.args.map a.eval).toList := by simpa using h.args c.args.toList
              refine call_wp hop hc (callA_core h hD.a hB hw (us := c.args.map a.eval) hx hps hcall) fun v W' ⟨g1, g2, g3⟩ => ?_
              have hP' : Pend P base μ (st.put o.dst (tupTV rs)).so rem := by rw [hput]; exact hP.tail
              split at hrs
              · simp at hrs
              · rename_i hno
                obtain rfl := Option.some.inj hrs
                refine hK _ _ μ (g1.put o.dst (RepRes.tv ?_)) hP'
                cases hsl : anySl rs' with
                | false => exact noSlRes g3 hsl
                | true =>
                  have hrw : rowsOf (rdArgs (rdv st.tm) c.args.toList) = [] := argRows_none (by
                    cases hh : argRows (rdArgs (rdv st.tm) c.args.toList) with
                    | false => rfl
                    | true => exact (hno hh hsl).elim)
                  refine g3.step ⟨fun b hb => ⟨?_, fun _ => rfl⟩⟩
                  obtain ⟨hb, hlt⟩ := hb
                  rcases hb with (hb | ⟨k, e, ys, cc, hk, _⟩) | hb
                  · exact free_sub (fun j hj => hj) g2.size (fun b hb => .inl hb) hb
                  · rw [hrw] at hk
                    simp at hk
                  · exact new_free h (fun j hj => hj) hb hlt
            · simp at hrs
          · simp at hr
        · simp at hr
    · rename_i hnf
      unfold evCallS at hs
      split at hs
      · rename_i b hc
        rcases h3 with h3 | h3
        · have hb : evBlt P st base o.dst c.argTypes.toList (rdArgs (rdv st.tm) c.args.toList) b = putO st o.dst (bltTV P b c.argTypes.toList (rdArgs (rdv st.tm) c.args.toList)) := by
            unfold cls at h3
            rw [hop] at h3
            simp only [hc] at h3
            cases b <;> first | (simp at h3; done) | rfl
          rw [hb] at hs
          obtain ⟨r, hr, rfl⟩ := putO_some hs
          obtain ⟨consts, hx⟩ := call_builtin hop hc a.eval
          obtain ⟨z, g1, g2⟩ := blt_run (P := P) (ty := o.type) (consts := consts) (us := c.args.map a.eval) (by simpa using h.args c.args.toList) hr
          exact wp_value (z := z) (W' := W) (by rw [hx, g1]) (hK _ _ _ (h.put o.dst g2) (by rw [hput]; exact hP.tail))
        · exact blt_op h hop hc hs fun a' W' μ' h' => hK a' W' μ' h' fun o' ho' ty d hty hd => absurd hd (h3 o' ho' ty d hty)
      · rename_i f hc
        exact absurd hc (hnf f)
      · simp at hs
  · rename_i h1 h2 h3
    exact plain (fun c hc => h3 c hc) hs
end
end Go.Proofs.YtlhjljplfmmoaaaGreatDoor.Ev
/- Soundness of the evaluator, part 26: regions that draw their order. -/
namespace Go.Proofs.YtlhjljplfmmoaaaGreatDoor.Ev
open Go Go.RowKit Go.Lib
theorem nthL_lt : ∀ {l : List (List Nat)} {m j : Nat}, j ∈ nthL l m → m < l.length := by
  intro l
  induction l with
  | nil => intro m j h; simp [nthL] at h
  | cons x l ih =>
    intro m j h
    cases m with
    | zero => simp
    | succ m => have := ih (m := m) h; simp; omega
theorem nthL_append {l k : List (List Nat)} {m : Nat} (h : m < l.length) : nthL (l ++ k) m = nthL l m := by
  induction l generalizing m with
  | nil => simp at h
  | cons x l ih =>
    cases m with
    | zero => rfl
    | succ m => exact ih (by simpa using h)
theorem nthL_at (l : List (List Nat)) (x : List Nat) (k : List (List Nat)) : nthL (l ++ x :: k) l.length = x := by
  induction l with
  | nil => rfl
  | cons y l ih => exact ih
theorem ancs_prefix : ∀ (l : List Oper) (acc : List (List Nat)), ∃ rest, ancs acc l = acc ++ rest
  | [], acc => ⟨[], by simp [ancs]⟩
  | o :: t, acc => by
    obtain ⟨rest, h⟩ := ancs_prefix t (acc ++ [ancE acc o.after.toList])
    exact ⟨ancE acc o.after.toList :: rest, by rw [ancs, h]; simp⟩
theorem ancE_mem {acc : List (List Nat)} {j : Nat} : ∀ {l : List Edge}, j ∈ ancE acc l → ∃ e, e ∈ l ∧ Region.binds .any e = true ∧ (j = e.on ∨ j ∈ nthL acc e.on)
  | [], h => by simp [ancE] at h
  | e :: t, h => by
    simp only [ancE] at h
    split at h
    · rename_i hb
      rcases List.mem_cons.1 h with rfl | h
      · exact ⟨e, List.mem_cons_self, hb, .inl rfl⟩
      · rcases List.mem_append.1 h with h | h
        · exact ⟨e, List.mem_cons_self, hb, .inr h⟩
        · obtain ⟨e', h1, h2⟩ := ancE_mem h
          exact ⟨e', List.mem_cons_of_mem _ h1, h2⟩
    · obtain ⟨e', h1, h2⟩ := ancE_mem h
      exact ⟨e', List.mem_cons_of_mem _ h1, h2⟩
theorem ancs_get : ∀ (l : List Oper) (acc : List (List Nat)) (i : Nat) (o : Oper), l[i]? = some o → ∀ j, j ∈ nthL (ancs acc l) (acc.length + i) → ∃ e, e ∈ o.after.toList ∧ Region.binds .any e = true ∧ (j = e.on ∨ j ∈ nthL (ancs acc l) e.on) := by
  intro l
  induction l with
  | nil => intro acc i o h; simp at h
  | cons x l ih =>
    intro acc i o h j hj
    cases i with
    | zero =>
      obtain rfl : x = o := by simpa using h
      obtain ⟨rest, hr⟩ := ancs_prefix l (acc ++ [ancE acc x.after.toList])
      have he : ancs acc (x :: l) = acc ++ ancE acc x.after.toList :: rest := by rw [ancs, hr]; simp
      rw [he, Nat.add_zero, nthL_at] at hj
      obtain ⟨e, h1, h2, h3⟩ := ancE_mem hj
      refine ⟨e, h1, h2, h3.imp id fun h3 => ?_⟩
      rw [he, nthL_append (nthL_lt h3)]
      exact h3
    | succ i =>
      rw [ancs] at hj ⊢
      exact ih _ i o (by simpa using h) j (by rw [List.length_append, List.length_singleton, Nat.add_assoc, Nat.add_comm 1 i]; exact hj)
theorem backOk_get : ∀ {l : List Oper} {k : Nat}, backOk k l = true → ∀ (i : Nat) (o : Oper), l[i]? = some o → ∀ e, e ∈ o.after.toList → Region.binds .any e = true → e.on < k + i := by
  intro l
  induction l with
  | nil => intro k _ i o h; simp at h
  | cons x l ih =>
    intro k hb i o h e he hbe
    simp only [backOk, Bool.and_eq_true, List.all_eq_true] at hb
    cases i with
    | zero =>
      obtain rfl : x = o := by simpa using h
      have := hb.1 e he
      simp only [hbe, Bool.not_true, Bool.false_or, decide_eq_true_eq] at this
      omega
    | succ i =>
      have := ih hb.2 i o (by simpa using h) e he hbe
      omega
theorem noThree_get {mb : FuncId → Bool} : ∀ {l : List Oper}, noThree mb l = true → ∀ o, o ∈ l → cls mb o ≤ 2 := by
  intro l
  induction l with
  | nil => intro _ o h; simp at h
  | cons x l ih =>
    intro h o ho
    simp only [noThree, Bool.and_eq_true, decide_eq_true_eq] at h
    rcases List.mem_cons.1 ho with rfl | ho
    · exact h.1
    · exact ih h.2 o ho
theorem nodup_alloc : ∀ {l : List Oper}, nodup (allocDsts l) = true → ∀ (i j : Nat) (o o' : Oper) (ty ty' : TypeId) (d : Nat), i ≠ j → l[i]? = some o → l[j]? = some o' → o.op = .alloc ty → o.dst = some d → o'.op = .alloc ty' → o'.dst ≠ some d := by
  intro l
  induction l with
  | nil => intro _ i j o o' ty ty' d _ h; simp at h
  | cons x l ih =>
    intro hn i j o o' ty ty' d hij hi hj ho hd ho' hd'
    have hcons : ∀ {o1 o2 : Oper} {t1 t2 : TypeId} {k : Nat}, x = o1 → o1.op = .alloc t1 → o1.dst = some d → l[k]? = some o2 → o2.op = .alloc t2 → o2.dst = some d → False := by
      intro o1 o2 t1 t2 k hx h1 h2 h3 h4 h5
      have hA : allocDsts (x :: l) = d :: allocDsts l := by rw [allocDsts, hx, h1, h2]
      rw [hA] at hn
      simp only [nodup, Bool.and_eq_true, Bool.not_eq_true', List.contains_eq_mem, decide_eq_false_iff_not] at hn
      exact hn.1 (allocDsts_mem (List.mem_of_getElem? h3) h4 h5)
    have htail : nodup (allocDsts l) = true := by
      rw [allocDsts] at hn
      split at hn
      · simp only [nodup, Bool.and_eq_true] at hn
        exact hn.2
      · exact hn
    cases i with
    | zero =>
      cases j with
      | zero => exact hij rfl
      | succ j => exact hcons (by simpa using hi) ho hd (by simpa using hj) ho' hd'
    | succ i =>
      cases j with
      | zero => exact hcons (by simpa using hj) ho' hd' (by simpa using hi) ho hd
      | succ j => exact ih htail i j o o' ty ty' d (by omega) (by simpa using hi) (by simpa using hj) ho hd ho' hd'
/-- The indices that are still to come, in order. -/
def idx (n : Nat) (listed : Array Bool) : List Nat := (List.range n).filter fun i => !listed.getD i true
def pick (ops : Array Oper) (l : List Nat) : List Oper := l.filterMap (ops[·]?)
theorem idx_sorted (n : Nat) (listed : Array Bool) : (idx n listed).Pairwise (· < ·) := List.Pairwise.filter _ List.pairwise_lt_range
theorem idx_mem {n : Nat} {listed : Array Bool} {i : Nat} : i ∈ idx n listed ↔ i < n ∧ listed.getD i true = false := by
  unfold idx
  rw [List.mem_filter, List.mem_range]
  simp
theorem idx_set {n : Nat} {listed : Array Bool} (hn : listed.size = n) {pre post : List Nat} {i : Nat} (h : idx n listed = pre ++ i :: post) : idx n (listed.setIfInBounds i true) = pre ++ post := by
  have hi : i ∈ idx n listed := by rw [h]; simp
  have hs := idx_sorted n listed
  rw [h] at hs
  rw [List.pairwise_append, List.pairwise_cons] at hs
  obtain ⟨_, ⟨h2, _⟩, h3⟩ := hs
  have he : idx n (listed.setIfInBounds i true) = (idx n listed).filter (fun j => decide (j ≠ i)) := by
    unfold idx
    rw [List.filter_filter]
    apply List.filter_congr
    intro j hj
    by_cases hji : j = i
    · subst hji
      have : j < listed.size := by rw [hn]; exact (idx_mem.1 hi).1
      simp [this]
    · rw [getD_set_ne true (Ne.symm hji)]
      simp [hji]
  rw [he, h, List.filter_append, List.filter_cons]
  simp only [ne_eq, not_true_eq_false, decide_false, Bool.false_eq_true, if_false]
  rw [List.filter_eq_self.2, List.filter_eq_self.2]
  · intro j hj
    have := h2 j hj
    simp; omega
  · intro j hj
    have := h3 j hj i List.mem_cons_self
    simp; omega
section
variable {P : Program} {S0 : Nat → Prop} {n0 : Nat} {w0 : World} {A : List (Array Value)} {base : Nat}
theorem draw_any {R : Type} {D : Dat} {B : Nat} {w00 : World} (hD : Sound P B w00 D) (hB : B ≤ n0) (hw : Below B w00 w0) {ops : Array Oper} {k : St → Option R} {r : R} {Q : Exit → Act → World → Prop}
    (hback : backOk 0 ops.toList = true) (hpairs : pairsOk D.modeB ops (ancs [] ops.toList) = true) (hnd : nodup (allocDsts ops.toList) = true) (h3 : allocDsts ops.toList = [] ∨ noThree D.modeB ops.toList = true)
    (hQ : ∀ st' a' W' μ', Rel P S0 n0 w0 noH st' a' W' A μ' → k st' = some r → Q .normal a' W') :
    ∀ (fuel : Nat) (listed : Array Bool) (st : St) (a : Act) (W : World) (μ : Mu), listed.size = ops.size → (idx ops.size listed).length ≤ fuel →
      (∀ i, listed.getD i false = true → ∀ j, j ∈ nthL (ancs [] ops.toList) i → listed.getD j false = true) → Rel P S0 n0 w0 noH st a W A μ → Pend P base μ st.so (pick ops (idx ops.size listed)) →
      evOps (evStepD P D base) ops (pick ops (idx ops.size listed)) st k = some r → wpAny P .any ops Q fuel listed a W := by
  have hfl : ∀ {listed : Array Bool} {j : Nat}, listed.getD j true = true → j < listed.size → listed.getD j false = true := by
    intro listed j h hlt
    simp [hlt] at h ⊢
    exact h
  have hdone : ∀ (listed : Array Bool) (st : St) (a : Act) (W : World) (μ : Mu), listed.size = ops.size → Rel P S0 n0 w0 noH st a W A μ → evOps (evStepD P D base) ops (pick ops (idx ops.size listed)) st k = some r → Region.ready .any ops listed = [] → Q .normal a W := by
    intro listed st a W μ hsz h he hr
    have hnil : idx ops.size listed = [] := by
      cases hx : idx ops.size listed with
      | nil => rfl
      | cons i rest =>
        exfalso
        have hi : i ∈ idx ops.size listed := by rw [hx]; exact List.mem_cons_self
        obtain ⟨hlt, hun⟩ := idx_mem.1 hi
        have hmem : i ∈ Region.ready .any ops listed := by
          rw [mem_ready]
          refine ⟨hun, ops[i], Array.getElem?_eq_getElem hlt, fun e he hbe => ?_⟩
          have hon := backOk_get hback i ops[i] (by simp [hlt]) e (by simpa using he) hbe
          rw [Nat.zero_add] at hon
          refine hfl ?_ (by omega)
          cases hg : listed.getD e.on true with
          | true => rfl
          | false =>
            exfalso
            have : e.on ∈ idx ops.size listed := idx_mem.2 ⟨by omega, hg⟩
            rw [hx] at this
            have hs := idx_sorted ops.size listed
            rw [hx, List.pairwise_cons] at hs
            rcases List.mem_cons.1 this with h1 | h1
            · omega
            · have := hs.1 _ h1
              omega
        rw [hr] at hmem
        simp at hmem
    rw [hnil] at he
    exact hQ st a W μ h he
  intro fuel
  induction fuel with
  | zero =>
    intro listed st a W μ hsz hl _ h hP he
    have hnil : idx ops.size listed = [] := List.eq_nil_of_length_eq_zero (by omega)
    have hr : Region.ready .any ops listed = [] := by
      apply List.eq_nil_iff_forall_not_mem.2
      intro i hi
      obtain ⟨hun, o, ho, _⟩ := mem_ready.1 hi
      have : i ∈ idx ops.size listed := idx_mem.2 ⟨(Array.getElem?_eq_some_iff.1 ho).1, hun⟩
      rw [hnil] at this
      simp at this
    exact ⟨hr, hdone listed st a W μ hsz h he hr⟩
  | succ fuel ih =>
    intro listed st a W μ hsz hl hcl h hP he
    refine ⟨hdone listed st a W μ hsz h he, fun i hi => ?_⟩
    obtain ⟨hun, o, ho, hpre⟩ := mem_ready.1 hi
    have hlt : i < ops.size := (Array.getElem?_eq_some_iff.1 ho).1
    obtain ⟨pre, post, hsplit⟩ := List.append_of_mem (idx_mem.2 ⟨hlt, hun⟩ : i ∈ idx ops.size listed)
    have hs := idx_sorted ops.size listed
    rw [hsplit, List.pairwise_append, List.pairwise_cons] at hs
    have hpk : pick ops (idx ops.size listed) = pick ops pre ++ o :: pick ops post := by
      rw [hsplit]
      unfold pick
      rw [List.filterMap_append, List.filterMap_cons, ho]
    have hnew : idx ops.size (listed.setIfInBounds i true) = pre ++ post := idx_set hsz hsplit
    have hpn : pick ops (idx ops.size (listed.setIfInBounds i true)) = pick ops pre ++ pick ops post := by
      rw [hnew]
      exact List.filterMap_append
    have hanc : ∀ j, j ∈ nthL (ancs [] ops.toList) i → listed.getD j false = true := fun j hj => by
      obtain ⟨e, e1, e2, e3⟩ := ancs_get ops.toList [] i o (by simpa using ho) j (by simpa using hj)
      have hon := hpre e (by simpa using e1) e2
      rcases e3 with rfl | e3
      · exact hon
      · exact hcl _ hon j e3
    rw [hpk] at he hP
    have hbub := bubble (pick ops pre) st (fun x hx => by
      obtain ⟨j, hj, hjo⟩ := List.mem_filterMap.1 hx
      have hji := hs.2.2 j hj i List.mem_cons_self
      have hjm : j ∈ idx ops.size listed := by rw [hsplit]; exact List.mem_append_left _ hj
      have hjun := (idx_mem.1 hjm).2
      unfold pairsOk at hpairs
      rw [List.all_eq_true] at hpairs
      have h1 := hpairs i (List.mem_range.2 hlt)
      rw [List.all_eq_true] at h1
      have h2 := h1 j (List.mem_range.2 hji)
      simp only [ho, hjo, Bool.or_eq_true, List.contains_eq_mem, decide_eq_true_eq] at h2
      rcases h2 with h2 | h2
      · have := hanc j h2
        have hjs : j < listed.size := by rw [hsz]; exact (idx_mem.1 hjm).1
        simp [hjs] at this hjun
        rw [this] at hjun
        simp at hjun
      · exact h2) he
    have hclos : ∀ i', (listed.setIfInBounds i true).getD i' false = true → ∀ j, j ∈ nthL (ancs [] ops.toList) i' → (listed.setIfInBounds i true).getD j false = true := fun i' hi' j hj => by
      by_cases hii : i' = i
      · subst hii
        exact getD_set_true (hanc j hj)
      · rw [getD_set_ne false (Ne.symm hii)] at hi'
        exact getD_set_true (hcl i' hi' j hj)
    have hlen : (idx ops.size (listed.setIfInBounds i true)).length ≤ fuel := by
      rw [hnew]
      rw [hsplit] at hl
      simp at hl ⊢
      omega
    have hPall : Pend P base μ st.so (o :: (pick ops pre ++ pick ops post)) := fun o' ho' => hP o' (by
      rcases List.mem_cons.1 ho' with rfl | ho'
      · simp
      · rcases List.mem_append.1 ho' with h1 | h1
        · exact List.mem_append_left _ h1
        · exact List.mem_append_right _ (List.mem_cons_of_mem _ h1))
    have hidx : ∀ o', o' ∈ pick ops pre ++ pick ops post → ∃ j, j ≠ i ∧ ops.toList[j]? = some o' := fun o' ho' => by
      have : o' ∈ pick ops (pre ++ post) := by unfold pick at *; rw [List.filterMap_append]; exact ho'
      obtain ⟨j, hj, hjo⟩ := List.mem_filterMap.1 this
      refine ⟨j, ?_, by simpa using hjo⟩
      rcases List.mem_append.1 hj with hj | hj
      · have := hs.2.2 j hj i List.mem_cons_self
        omega
      · have := hs.2.1.1 j hj
        omega
    unfold wpOp
    rw [ho]
    simp only
    rw [evOps_cons] at hbub
    unfold doD at hbub
    split at hbub
    · rename_i st1 hst1
      split at hst1
      · simp at hst1
      · rename_i hwant
        rw [wanted_run h hwant]
        simp only [if_true]
        refine .inl (op_runD h hD hB hw hPall ?_ (fun o' ho' ty ty' d q1 q2 q3 => ?_) hst1 fun a' W' μ' h' hP' => ih _ st1 a' W' μ' (by rw [Array.size_setIfInBounds]; exact hsz) hlen hclos h' (by rw [hpn]; exact hP') (by rw [hpn]; exact hbub))
        · rcases h3 with h3 | h3
          · refine .inr fun o' ho' ty d q1 q2 => ?_
            obtain ⟨j, _, hj⟩ := hidx o' ho'
            have := allocDsts_mem (List.mem_of_getElem? hj) q1 q2
            rw [h3] at this
            simp at this
          · exact .inl (noThree_get h3 o (by simpa using Array.mem_of_getElem? ho))
        · obtain ⟨j, hji, hj⟩ := hidx o' ho'
          exact nodup_alloc hnd i j o o' ty ty' d (Ne.symm hji) (by simpa using ho) hj q1 q2 q3
      · rename_i hwant
        obtain rfl := Option.some.inj hst1
        rw [wanted_run h hwant]
        simp only [Bool.false_eq_true, if_false]
        exact ih _ _ _ W μ (by rw [Array.size_setIfInBounds]; exact hsz) hlen hclos (h.put o.dst skip_rep) (by rw [hpn, put_so]; exact hPall.tail) (by rw [hpn]; exact hbub)
    · simp at hbub
theorem idx_start (n : Nat) : idx n (Array.replicate n false) = List.range n := by
  unfold idx
  rw [List.filter_eq_self]
  intro i hi
  simp [List.mem_range.1 hi]
theorem pick_map (ops : Array Oper) : ∀ (l : List Nat), (∀ i, i ∈ l → i < ops.size) → pick ops l = l.map fun i => ops.getD i default
  | [], _ => rfl
  | i :: l, h => by
    have hi := h i List.mem_cons_self
    have := pick_map ops l fun j hj => h j (List.mem_cons_of_mem _ hj)
    unfold pick at this ⊢
    rw [List.filterMap_cons, Array.getElem?_eq_getElem hi, this, List.map_cons]
    simp [hi]
theorem pick_all (ops : Array Oper) : pick ops (List.range ops.size) = ops.toList := by
  rw [pick_map ops _ fun i hi => List.mem_range.1 hi]
  apply List.ext_getElem?
  intro i
  simp only [List.getElem?_map, Array.getElem?_toList]
  by_cases h : i < ops.size
  · simp [h]
  · simp [h]
theorem draw_ok (hm : P.follows .mixedOrders = true) {D : Dat} {B : Nat} {w00 : World} (hD : Sound P B w00 D) : DrawOk P B w00 D := by
  intro R base ops st k r Q S0 n0 w0 a W A μ hB hw h he hQ id
  unfold evDraw at he
  split at he
  · rename_i st1 hok hpre
    unfold okDraw at hok
    simp only [Bool.and_eq_true] at hok
    obtain ⟨⟨hback, hpairs⟩, hal⟩ := hok
    have hal' : nodup (allocDsts ops.toList) = true ∧ (allocDsts ops.toList = [] ∨ noThree D.modeB ops.toList = true) := by
      split at hal
      · rename_i hnil
        rw [hnil]
        exact ⟨rfl, .inl rfl⟩
      · rename_i d ds hds
        simp only [Bool.and_eq_true] at hal
        rw [hds]
        exact ⟨hal.1, .inr hal.2⟩
    have h0 := h.world (H' := noH) (W' := W.drew) h.below.drew (Nat.le_refl _) (fun _ _ _ => rfl) (fun b hb => hb.elim)
    obtain ⟨h1, h2, _⟩ := killAll_run (base := base) (allocDsts ops.toList) h0
    unfold preAlloc at hpre
    obtain ⟨μ', g1, g2, _⟩ := layAll_run ops.toList h1 hal'.1 h2 hpre
    refine wp_region_any hm (draw_any (base := base) hD hB hw hback hpairs hal'.1 hal'.2 hQ ops.size _ st1 a W.drew μ' (by simp) (by rw [idx_start]; simp) (fun i hi => ?_) g1 (by rw [idx_start, pick_all]; exact g2) (by rw [idx_start, pick_all]; exact he))
    exfalso
    rw [Array.getD_eq_getD_getElem?, Array.getElem?_replicate] at hi
    split at hi <;> simp at hi
  · simp at he
/-- THE EVALUATOR IS RIGHT. -/
theorem sound (hm : P.follows .mixedOrders = true) {B : Nat} {w00 : World} (hB0 : B ≤ w00.heap.size) {G : Given} (hG : GivenOk P B w00 G) (n : Nat) : Sound P B w00 (ev P G n) := ev_sound hB0 hG (fun _ hD => draw_ok hm hD) n
end
end Go.Proofs.YtlhjljplfmmoaaaGreatDoor.Ev
/- Arguments: what a law's row reads is data of the evaluator's. -/
namespace Go.Proofs.YtlhjljplfmmoaaaGreatDoor.Ev
open Go Go.RowKit
section
variable (P : Program)
def FitsFs (R : TypeId → List PV → Prop) : List Field → List PV → Prop
  | [], cs => cs = []
  | f :: t, cs => ∃ p q, cs = p ++ q ∧ p.length = P.cellsOf f.type ∧ R f.type p ∧ FitsFs R t q
/-- The cells are data of the type. -/
def Fits : Nat → TypeId → List PV → Prop
  | 0, _, _ => False
  | n + 1, t, cs => match P.underlying t with
    | some .bool => ∃ b, cs = [.val (.bool b)]
    | some (.int k) => ∃ m, cs = [.val (.int k m)] ∧ (Lit.int k m).wf = true
    | some .string => ∃ s, cs = [.val (.string s)] ∧ s.size ≤ reachBytes
    | some (.slice e) => ∃ xs, cs = [.sl xs] ∧ xs.length ≤ maxLen ∧ xs.length * P.bytesOf e ≤ reachBytes ∧ ∀ x, x ∈ xs → Fits n e x.cells ∧ ((isAggT P e = some true ∧ ∃ c, x = .agg c) ∨ (isAggT P e = some false ∧ x.cells = [x]))
    | some (.struct fs) => FitsFs P (Fits n) fs.toList cs
    | _ => False
def plainFs (R : TypeId → Bool) : List Field → Nat → Nat → Bool
  | [], off, n => off == n
  | f :: t, off, n => f.offset == off && R f.type && plainFs R t (off + P.cellsOf f.type) n
/-- Types of numbers, truth values, strings, slices and structs alone, laid in order. -/
def plainT : Nat → TypeId → Bool
  | 0, _ => false
  | n + 1, t => match P.underlying t with
    | some .bool | some (.int _) | some .string => true
    | some (.slice e) => plainT n e && decide (0 < P.cellsOf e) && (isAggT P e).isSome
    | some (.struct fs) => plainFs P (plainT n) fs.toList 0 (P.cellsOf t)
    | _ => false
end
section
variable {P : Program} {H : Type} {enc : TypeId × Value → H} {W : World} {base : Nat} {spare : Nat → Bool}
abbrev inW (W : World) : Nat → Prop := fun b => b < W.heap.size
/-- Cells read, as data. -/
def Read (P : Program) (W : World) (n : Nat) (t : TypeId) (cs : List Value) : Prop := ∃ pcs : List PV, pcs.length = cs.length ∧ Fits P n t pcs ∧ ∀ (j : Nat) (y : PV), pcs[j]? = some y → ∃ u, cs[j]? = some u ∧ Rep (inW W) W y u
theorem read_one {n : Nat} {t : TypeId} {y : PV} {u : Value} (hf : Fits P n t [y]) (hr : Rep (inW W) W y u) : Read P W n t [u] :=
  ⟨[y], rfl, hf, fun j z hj => by
    cases j with
    | zero => obtain rfl : y = z := by simpa using hj
              exact ⟨u, rfl, hr⟩
    | succ j => simp at hj⟩
theorem fields_read {R : TypeId → Bool} {n : Nat} {cs : List Value} : ∀ (l : List Field) (off : Nat), plainFs P R l off cs.length = true → (∀ f, f ∈ l → R f.type = true → Read P W n f.type ((cs.drop f.offset).take (P.cellsOf f.type)) ∧ f.offset + P.cellsOf f.type ≤ cs.length) →
    ∃ pcs : List PV, off + pcs.length = cs.length ∧ FitsFs P (Fits P n) l pcs ∧ ∀ (j : Nat) (y : PV), pcs[j]? = some y → ∃ u, cs[off + j]? = some u ∧ Rep (inW W) W y u := by
  intro l
  induction l with
  | nil =>
    intro off hp _
    simp only [plainFs, beq_iff_eq] at hp
    exact ⟨[], by simpa using hp, rfl, fun j y hj => by simp at hj⟩
  | cons f l ih =>
    intro off hp hr
    simp only [plainFs, Bool.and_eq_true, beq_iff_eq] at hp
    obtain ⟨⟨h1, h2⟩, h3⟩ := hp
    obtain ⟨⟨p, g1, g2, g3⟩, hle⟩ := hr f List.mem_cons_self h2
    obtain ⟨q, k1, k2, k3⟩ := ih _ h3 fun f' hf' => hr f' (List.mem_cons_of_mem _ hf')
    have hpl : p.length = P.cellsOf f.type := by rw [g1, List.length_take, List.length_drop]; omega
    refine ⟨p ++ q, by rw [List.length_append]; omega, ⟨p, q, rfl, hpl, g2, k2⟩, fun j y hj => ?_⟩
    rw [List.getElem?_append] at hj
    split at hj
    · rename_i hlt
      obtain ⟨u, hu, hr⟩ := g3 j y hj
      refine ⟨u, ?_, hr⟩
      rw [List.getElem?_take, if_pos (by omega), List.getElem?_drop, h1] at hu
      exact hu
    · rename_i hge
      obtain ⟨u, hu, hr⟩ := k3 _ y hj
      refine ⟨u, ?_, hr⟩
      rw [show off + j = off + P.cellsOf f.type + (j - p.length) by omega]
      exact hu
theorem plain_end {R : TypeId → Bool} : ∀ (l : List Field) (off n : Nat), plainFs P R l off n = true → off ≤ n ∧ ∀ f, f ∈ l → f.offset + P.cellsOf f.type ≤ n := by
  intro l
  induction l with
  | nil => intro off n h; simp only [plainFs, beq_iff_eq] at h; exact ⟨by omega, fun f hf => by simp at hf⟩
  | cons f l ih =>
    intro off n h
    simp only [plainFs, Bool.and_eq_true, beq_iff_eq] at h
    obtain ⟨⟨h1, h2⟩, h3⟩ := h
    obtain ⟨g1, g2⟩ := ih _ _ h3
    refine ⟨by omega, fun f' hf' => ?_⟩
    rcases List.mem_cons.1 hf' with rfl | hf'
    · omega
    · exact g2 f' hf'
end
end Go.Proofs.YtlhjljplfmmoaaaGreatDoor.Ev
/- Arguments: a reading is data. -/
namespace Go.Proofs.YtlhjljplfmmoaaaGreatDoor.Ev
open Go Go.RowKit
section
variable {P : Program} {H : Type} {enc : TypeId × Value → H} {W : World} {base : Nat} {spare : Nat → Bool} {held : Bool}
theorem choose_pv {Q : Nat → PV → Prop} (n : Nat) (h : ∀ j, j < n → ∃ u, Q j u) : ∃ us : List PV, us.length = n ∧ ∀ (j : Nat) (u : PV), us[j]? = some u → Q j u := by
  induction n with
  | zero => exact ⟨[], rfl, fun j u hj => by simp at hj⟩
  | succ n ih =>
    obtain ⟨us, h1, h2⟩ := ih fun j hj => h j (by omega)
    obtain ⟨u, hu⟩ := h n (by omega)
    refine ⟨us ++ [u], by simp [h1], fun j v hj => ?_⟩
    rw [List.getElem?_append] at hj
    split at hj
    · exact h2 j v hj
    · rename_i hlt
      have hj0 : j - us.length = 0 := by
        have := (List.getElem?_eq_some_iff.1 hj).1
        simp at this
        omega
      rw [hj0] at hj
      obtain rfl : u = v := by simpa using hj
      have : j = n := by omega
      subst this
      exact hu
theorem rep_nil {S : Nat → Prop} : Rep S W (.sl []) (.slice none 0 0) := Rep.sl [] none 0 0 (fun _ _ => default) (Nat.le_refl _) (Nat.zero_le _) (fun h => absurd rfl h) (fun x hx => by simp at hx) (fun ad ha => by simp at ha) (fun i x j y hx => by simp at hx)
theorem fits_one {n : Nat} {e : TypeId} {pcs : List PV} (h : Fits P n e pcs) (ha : isAggT P e = some false) : ∃ y, pcs = [y] ∧ y.cells = [y] := by
  cases n with
  | zero => exact h.elim
  | succ n =>
    unfold Fits at h
    split at h
    · obtain ⟨b, rfl⟩ := h; exact ⟨_, rfl, rfl⟩
    · obtain ⟨b, rfl, _⟩ := h; exact ⟨_, rfl, rfl⟩
    · obtain ⟨b, rfl, _⟩ := h; exact ⟨_, rfl, rfl⟩
    · obtain ⟨b, rfl, _⟩ := h; exact ⟨_, rfl, rfl⟩
    · rename_i fs hu
      unfold isAggT at ha
      rw [hu] at ha
      simp at ha
    · exact h.elim
/-- Nothing in it is too large. -/
def Light (P : Program) (t : TypeId) (d : DataW H) : Prop := ∀ m, m ∈ d.weights P t → m ≤ reachBytes
theorem weights_mem_all {e : TypeId} : ∀ {ds : List (DataW H)} {j : Nat} {d : DataW H}, ds[j]? = some d → ∀ m, m ∈ d.weights P e → m ∈ DataW.weightsAll P e ds
  | d0 :: ds, 0, d, hd, m, hm => by
    simp only [List.getElem?_cons_zero, Option.some.injEq] at hd
    subst hd
    simp only [DataW.weightsAll, List.mem_append]
    exact .inl hm
  | d0 :: ds, j + 1, d, hd, m, hm => by
    simp only [List.getElem?_cons_succ] at hd
    simp only [DataW.weightsAll, List.mem_append]
    exact .inr (weights_mem_all hd m hm)
  | [], _, _, hd, _, _ => by simp at hd
theorem slice_read {fuel n : Nat} {t e : TypeId} {a : Addr} {len cap : Nat} {d : DataW H} {ps : List MemPlace} (hu : P.underlying t = some (.slice e)) (hpos : 0 < P.cellsOf e) (hag : (isAggT P e).isSome = true) (hw : Light P t d)
    (ih : ∀ (cs : List Value) (d : DataW H) (ps : List MemPlace), Light P e d → DataW.trod enc P W base spare held fuel e cs = some (d, ps) → Read P W n e cs)
    (h : (let elemAt := fun i => (W.cells? base (a.add (i * P.cellsOf e)) (P.cellsOf e)).bind (DataW.trod enc P W base spare held fuel e)
      if base ≤ a.block ∧ len ≤ cap ∧ cap ≤ maxLen then
        (List.mapM elemAt (List.range len)).bind fun elems =>
          Option.map (fun rest => (DataW.slice (List.map (fun x => x.fst) elems) (List.map (fun x => x.fst) rest), MemPlace.row a ((elems.length + rest.length) * P.cellsOf e) ++ List.flatMap (fun x => x.snd) (elems ++ rest)))
            (if spare a.block = true then List.mapM (fun j => elemAt (len + j)) (List.range (cap - len)) else some [])
      else none) = some (d, ps)) : Read P W (n + 1) t [.slice (some a) len cap] := by
  dsimp only at h
  split at h
  · rename_i hc
    obtain ⟨c1, c2, c3⟩ := hc
    obtain ⟨elems, he, hrest⟩ := Option.bind_eq_some_iff.1 h
    have hlen := mapM_some_length he
    rw [List.length_range] at hlen
    obtain ⟨rest, _, hd⟩ := Option.map_eq_some_iff.1 hrest
    simp only [Prod.mk.injEq] at hd
    obtain ⟨rfl, _⟩ := hd
    have hw1 : (elems.length + rest.length) * P.bytesOf e ≤ reachBytes := hw _ (by simp [DataW.weights, hu])
    have hw2 : ∀ (i : Nat) x, elems[i]? = some x → Light P e x.1 := fun i x hx m hm => hw m (by
      simp only [DataW.weights, hu, List.mem_cons, List.mem_append]
      exact .inr (.inl (weights_mem_all (j := i) (by rw [List.getElem?_map, hx]; rfl) m hm)))
    have hQ : ∀ i, i < len → ∃ x : PV, (Fits P n e x.cells ∧ ((isAggT P e = some true ∧ ∃ c, x = .agg c) ∨ (isAggT P e = some false ∧ x.cells = [x]))) ∧ x.cells.length = P.cellsOf e ∧
        ∀ (j : Nat) (y : PV), x.cells[j]? = some y → ∃ u, W.cell? (a.add (i * P.cellsOf e + j)) = some u ∧ Rep (inW W) W y u := fun i hi => by
      have h1 := mapM_some_get he i i (by simp [hi])
      rw [List.getElem?_eq_getElem (by omega)] at h1
      obtain ⟨cs, h2, h3⟩ := Option.bind_eq_some_iff.1 h1
      obtain ⟨_, h4, h5⟩ := World.cells?_some h2
      obtain ⟨pcs, g1, g2, g3⟩ := ih cs _ _ (hw2 i _ (List.getElem?_eq_getElem (by omega))) h3
      have hcells : ∀ (j : Nat) (y : PV), pcs[j]? = some y → ∃ u, W.cell? (a.add (i * P.cellsOf e + j)) = some u ∧ Rep (inW W) W y u := fun j y hj => by
        obtain ⟨u, hu, hr⟩ := g3 j y hj
        have hjl : j < P.cellsOf e := by
          have := (List.getElem?_eq_some_iff.1 hj).1
          omega
        refine ⟨u, ?_, hr⟩
        rw [← add_add, h5 j hjl, hu]
      obtain ⟨b, hb⟩ := Option.isSome_iff_exists.1 hag
      cases b with
      | true => exact ⟨.agg pcs, ⟨g2, .inl ⟨hb, pcs, rfl⟩⟩, by show pcs.length = _; omega, hcells⟩
      | false =>
        obtain ⟨y, rfl, hy⟩ := fits_one g2 hb
        exact ⟨y, ⟨by rw [hy]; exact g2, .inr ⟨hb, hy⟩⟩, by rw [hy]; omega, by rw [hy]; exact hcells⟩
    obtain ⟨xs, x1, x2⟩ := choose_pv len hQ
    have hmem : ∀ x, x ∈ xs → ∃ i, xs[i]? = some x := fun x hx => List.mem_iff_getElem?.1 hx
    refine read_one (y := .sl xs) ?_ ?_
    · unfold Fits
      rw [hu]
      refine ⟨xs, rfl, by omega, Nat.le_trans (Nat.mul_le_mul_right _ (by omega)) hw1, fun x hx => ?_⟩
      obtain ⟨i, hi⟩ := hmem x hx
      exact (x2 i x hi).1
    · have := Rep.sl (S := inW W) (W := W) xs (some a) cap (P.cellsOf e) (fun i j => (W.cell? (a.add (i * P.cellsOf e + j))).getD default) (by omega) c3 (fun _ => ⟨a, rfl⟩) (fun x hx => by
          obtain ⟨i, hi⟩ := hmem x hx
          exact (x2 i x hi).2.1) (fun ad ha i x hi => ?_) (fun i x j y hi hj => ?_)
      · rw [x1] at this; exact this
      · obtain rfl : a = ad := by simpa using ha
        obtain ⟨_, k1, k2⟩ := x2 i x hi
        refine ⟨?_, fun j y hj => ?_⟩
        · obtain ⟨u, hu, _⟩ := k2 0 x.cells[0] (List.getElem?_eq_getElem (by omega))
          have := World.block_lt_of_cell? W _ hu
          rwa [add_block] at this
        · obtain ⟨u, hu, _⟩ := k2 j y hj
          rw [hu]
          rfl
      · obtain ⟨_, k1, k2⟩ := x2 i x hi
        obtain ⟨u, hu, hr⟩ := k2 j y hj
        rw [hu]
        exact hr
  · simp at h
theorem trod_read : ∀ (fuel n : Nat) (t : TypeId) (cs : List Value) (d : DataW H) (ps : List MemPlace), plainT P n t = true → Light P t d → DataW.trod enc P W base spare held fuel t cs = some (d, ps) → Read P W n t cs := by
  intro fuel
  induction fuel with
  | zero => intro n t cs d ps _ _ h; simp [DataW.trod] at h
  | succ fuel ih =>
    intro n t cs d ps hp hw h
    cases n with
    | zero => simp [plainT] at hp
    | succ n =>
      unfold plainT at hp
      split at hp
      · rename_i hu
        unfold DataW.trod at h
        rw [hu] at h
        split at h <;> simp_all
        exact read_one (by simp [Fits, hu]) (.val _ rfl)
      · rename_i k hu
        unfold DataW.trod at h
        rw [hu] at h
        split at h <;> simp_all
        exact read_one (by simp [Fits, hu, h]) (.val _ rfl)
      · rename_i hu
        have hw' : ∀ l : List UInt8, d = .lit (.string l) → l.length ≤ reachBytes := fun l hd => by
          subst hd
          exact hw _ (by simp [DataW.weights])
        clear hw
        have hcs : ∃ s : ByteArray, cs = [.string s] ∧ d = .lit (.string s.data.toList) := by
          clear hw'
          unfold DataW.trod at h
          rw [hu] at h
          split at h <;> simp_all
        obtain ⟨s, rfl, hd⟩ := hcs
        have h3 := hw' _ hd
        exact read_one (by simp only [Fits, hu]; exact ⟨s, rfl, by simpa using h3⟩) (.val _ rfl)
      · rename_i e hu
        simp only [Bool.and_eq_true, decide_eq_true_eq] at hp
        obtain ⟨⟨hpe, hpos⟩, hag⟩ := hp
        unfold DataW.trod at h
        rw [hu] at h
        split at h <;> (try (rename_i he _; cases he; done)) <;> (try (rename_i he; cases he; done)) <;> (try (rename_i he _ _; cases he; done))
        · exact read_one (y := .sl []) (by unfold Fits; rw [hu]; exact ⟨[], rfl, by simp, by simp, fun x hx => by simp at hx⟩) rep_nil
        · rename_i a len cap he
          cases he
          exact slice_read hu hpos hag hw (fun cs d ps hl h => ih n e cs d ps hpe hl h) h
        · cases h
      · rename_i fs hu
        unfold DataW.trod at h
        rw [hu] at h
        split at h <;> (try (rename_i he _; cases he; done)) <;> (try (rename_i he; cases he; done)) <;> (try (rename_i he _ _; cases he; done))
        · rename_i fs' he
          cases he
          split at h
          · rename_i hlen
            obtain ⟨xs, hx, hd⟩ := Option.map_eq_some_iff.1 h
            simp only [Prod.mk.injEq] at hd
            obtain ⟨rfl, _⟩ := hd
            rw [← hlen] at hp
            obtain ⟨pcs, g1, g2, g3⟩ := fields_read (P := P) (W := W) (n := n) fs.toList 0 hp fun f hf hR => by
              refine ⟨?_, (plain_end _ _ _ hp).2 f hf⟩
              obtain ⟨i, hi⟩ := List.mem_iff_getElem?.1 hf
              have h1 := mapM_some_get hx i f hi
              have hl := mapM_some_length hx
              have hlt := (List.getElem?_eq_some_iff.1 hi).1
              rw [List.getElem?_eq_getElem (by omega)] at h1
              refine ih n f.type _ _ _ hR (fun m hm => hw m ?_) h1
              simp only [DataW.weights, hu]
              exact DataW.weights_mem_each (j := i) (by rw [List.getElem?_map, hi]; rfl) (by rw [List.getElem?_map, List.getElem?_eq_getElem (by omega)]; rfl) m hm
            exact ⟨pcs, by omega, by unfold Fits; rw [hu]; exact g2, fun j y hj => by simpa using g3 j y hj⟩
          · simp at h
        · simp_all
      · simp at hp
end
end Go.Proofs.YtlhjljplfmmoaaaGreatDoor.Ev
/- Arguments: one argument, and all. -/
namespace Go.Proofs.YtlhjljplfmmoaaaGreatDoor.Ev
open Go Go.RowKit
section
variable {P : Program} {H : Type} {enc : TypeId × Value → H} {W : World} {base b : Nat} {spare : Nat → Bool} {held : Bool}
/-- A whole value of the type. -/
def FitsV (P : Program) (n : Nat) (t : TypeId) (x : PV) : Prop := Fits P n t x.cells ∧ ((isAggT P t = some true ∧ ∃ c, x = .agg c) ∨ (isAggT P t = some false ∧ x.cells = [x]))
theorem okWide_one {t : TypeId} {v : Value} (h : Value.okWide P W .any b t v) (ha : isAggT P t = some false) (hp : ∃ n, plainT P n t = true) : v.cells = #[v] := by
  obtain ⟨n, hp⟩ := hp
  cases n with
  | zero => simp [plainT] at hp
  | succ n =>
    unfold Value.okWide Cell.okWide Cell.ok at h
    unfold plainT at hp
    unfold isAggT at ha
    cases hu : P.underlying t with
    | none => rw [hu] at ha; simp at ha
    | some d =>
      rw [hu] at h ha hp
      cases v with
      | agg cs => cases d <;> simp_all
      | _ => rfl
theorem arg_read {n : Nat} {t : TypeId} {v : Value} {d : DataW H} {ps : List MemPlace} (hp : plainT P n t = true) (hw : Light P t d) (ho : Value.okWide P W .any b t v) (h : DataW.Trod enc P W base spare held t v d ps) : ∃ x : PV, RepV (inW W) W x v ∧ FitsV P n t x := by
  obtain ⟨fuel, h⟩ := h
  obtain ⟨pcs, h1, h2, h3⟩ := trod_read fuel n t _ d ps hp hw h
  have hagg : (∃ fs, P.underlying t = some (.struct fs)) ∨ isAggT P t = some false := by
    cases n with
    | zero => simp [plainT] at hp
    | succ n =>
      unfold plainT at hp
      unfold isAggT
      split at hp
      · rename_i hu; rw [hu]; exact .inr rfl
      · rename_i hu; rw [hu]; exact .inr rfl
      · rename_i hu; rw [hu]; exact .inr rfl
      · rename_i hu; rw [hu]; exact .inr rfl
      · rename_i fs hu; exact .inl ⟨fs, hu⟩
      · simp at hp
  rcases hagg with ⟨fs, hu⟩ | ha
  · unfold Value.okWide at ho
    rw [hu] at ho
    obtain ⟨cs, rfl, _⟩ := ho
    refine ⟨.agg pcs, ⟨cs, rfl, by simpa [Value.cells] using h1.symm, fun j y hj => ?_⟩, h2, .inl ⟨by unfold isAggT; rw [hu], pcs, rfl⟩⟩
    obtain ⟨u, hu, hr⟩ := h3 j y hj
    exact ⟨u, by simpa [Value.cells] using hu, hr⟩
  · obtain ⟨y, rfl, hy⟩ := fits_one h2 ha
    obtain ⟨u, hu, hr⟩ := h3 0 y rfl
    rw [okWide_one ho ha ⟨n, hp⟩] at hu
    obtain rfl : v = u := by simpa using hu
    exact ⟨y, hr.v, by rw [hy]; exact h2, .inr ⟨ha, hy⟩⟩
/-- Each argument fits its type. -/
def FitsAll (P : Program) (n : Nat) : List TypeId → List PV → Prop
  | [], xs => xs = []
  | t :: ts, x :: xs => FitsV P n t x ∧ FitsAll P n ts xs
  | _ :: _, [] => False
theorem args_read {n : Nat} : ∀ (ts : List TypeId) (vs : List Value) (ds : List (DataW H)) (ps : List MemPlace), ts.all (plainT P n) = true → (DataW.weightsEach P ts ds).all (· ≤ reachBytes) = true → (∀ (j : Nat) t v, ts[j]? = some t → vs[j]? = some v → Value.okWide P W .any b t v) →
    DataW.TrodAll enc P W base spare held ts vs ds ps → ∃ xs : List PV, RepVL (inW W) W xs vs ∧ FitsAll P n ts xs := by
  intro ts
  induction ts with
  | nil =>
    intro vs ds ps _ _ _ h
    cases vs with
    | nil => exact ⟨[], trivial, rfl⟩
    | cons _ _ => cases ds <;> exact h.elim
  | cons t ts ih =>
    intro vs ds ps hp hw ho h
    cases vs with
    | nil => cases ds <;> exact h.elim
    | cons v vs =>
      cases ds with
      | nil => exact h.elim
      | cons d ds =>
        obtain ⟨p, q, h1, h2, _⟩ := h
        simp only [List.all_cons, Bool.and_eq_true] at hp
        simp only [DataW.weightsEach, List.all_eq_true, List.mem_append, decide_eq_true_eq] at hw
        obtain ⟨x, hx, hf⟩ := arg_read hp.1 (fun m hm => hw m (.inl hm)) (ho 0 t v rfl rfl) h1
        obtain ⟨xs, hxs, hfs⟩ := ih vs ds q hp.2 (List.all_eq_true.2 fun m hm => by simpa using hw m (.inr hm)) (fun j t v hj hv => ho (j + 1) t v (by simpa using hj) (by simpa using hv)) h2
        exact ⟨x :: xs, ⟨hx, hxs⟩, hf, hfs⟩
end
end Go.Proofs.YtlhjljplfmmoaaaGreatDoor.Ev
/- Arguments: they read behind the call as ahead of it; one law's row out of one `Calls`. -/
namespace Go.Proofs.YtlhjljplfmmoaaaGreatDoor.Ev
open Go Go.RowKit Go.ChangeShapes Go.WideShapes Go.ChangeAt
section
variable {P : Program} {H : Type} {enc : TypeId × Value → H} {W W' : World}
def typesOk (P : Program) (ts : List TypeId) : Bool := ts.all fun t => P.readableRec t && decide (t < P.types.size)
theorem trodAll_below (hl : laidOutB P = true) (hb : Below W.heap.size W W') : ∀ (ts : List TypeId) (vs : List Value) (ds : List (DataW H)) (ps : List MemPlace), typesOk P ts = true → DataW.TrodAll enc P W 0 (fun _ => true) true ts vs ds ps →
    DataW.TrodAll enc P W' 0 (fun b => decide (b < W.heap.size)) true ts vs ds ps := by
  intro ts
  induction ts with
  | nil => intro vs ds ps _ h; cases vs <;> cases ds <;> exact h
  | cons t ts ih =>
    intro vs ds ps ho h
    cases vs with
    | nil => cases ds <;> exact h.elim
    | cons v vs =>
      cases ds with
      | nil => exact h.elim
      | cons d ds =>
        obtain ⟨p, q, h1, h2, h3⟩ := h
        simp only [typesOk, List.all_cons, Bool.and_eq_true, decide_eq_true_eq] at ho
        refine ⟨p, q, Below.trod hl ho.1.1 ho.1.2 h1 hb ?_, ih vs ds q ho.2 h2, h3⟩
        obtain ⟨m, hm⟩ := h1
        exact DataW.trod_lt m _ _ _ hm
end
end Go.Proofs.YtlhjljplfmmoaaaGreatDoor.Ev
