/- Going through a function's code by simp: the rules, and what loops and numbers need. -/
import Derived.Test.YtlhjljplfmmoaaaGreatDoorProg
import Derived.Test.YtlhjljplfmmoaaaGreatDoorTab
import Derived.Test.YtlhjljplfmmoaaaGreatDoorKNorm
import Derived.KernelRfl
set_option linter.unusedSimpArgs false
set_option linter.unusedVariables false
namespace Go.Proofs.YtlhjljplfmmoaaaGreatDoor.Ev
open Go
attribute [simp] run_skip run_seq run_region run_draw run_cond run_block run_loop run_exit run_ret nrm_top nrm_seq nrm_blk nrm_again ext_seq ext_blk ext_again ops_nil ops_cons opsD_nil opsD_cons test_true test_false testD_true testD_false step_some stepD_some cond_true cond_false draw_true modeB_ev wantedE guardDst testTV nth setN told rdv ofVal ofVal1 ofVals scalarV evOp evVal putO putU putA putB St.put St.new St.kill St.withSo newBox Store.get Store.ins Store.del TV.cells PV.cells PV.tv PV.tv1 tvs frame opFieldAddr fieldAddrTV fieldT opLoad loadTV takeCells isAggT evCallS evGo rdArgs argsPV toPV toPV1 toPV1s aggO callS sealCall anySl hasSl hasSl1 tupTV valO opBin binTV isShift intBin opUn unTV pick? endA readAll readRes pvsO toPVs evStore rowsIn rowsIn1 withO storeSo opIndexAddr indexAddrTV intOf? evBlt bltTV lenTV opSlice rdOpt sliceTV bounds elemT one oneAll i64O killAll layAll preAlloc allocDsts boundV cutStr cutSl cutNil cutRow sizedAll rowSize opIndex indexTV opField fieldTV opConv convTV opExtract opNil isU8 nilBin nilness strBin best best1 evCall callO tupO slO putCells fillTV buildTV structZ aggT rdParts zeroPV baseOf moreOf killOpt evAppend evMake evCopy elems isBoxAt partRows newLit litTV litXs consO sealAll rowsOf isStr St.turn mapSo map3 map2 kill1 intShift
@[simp] theorem modeB_tab (f : FuncId) : tab.modeB f = false := rfl
theorem sz9 : sizeT Tryz.prog 9 = some 1 := by kernel_rfl
theorem sz3 : sizeT Tryz.prog 3 = some 1 := by kernel_rfl
theorem sz4 : sizeT Tryz.prog 4 = some 1 := by kernel_rfl
theorem sz5 : sizeT Tryz.prog 5 = some 1 := by kernel_rfl
theorem sz25 : sizeT Tryz.prog 25 = some 17 := by kernel_rfl
theorem sz27 : sizeT Tryz.prog 27 = some 5 := by kernel_rfl
theorem sz28 : sizeT Tryz.prog 28 = some 1 := by kernel_rfl
theorem sz22 : sizeT Tryz.prog 22 = some 1 := by kernel_rfl
theorem sz23 : sizeT Tryz.prog 23 = some 1 := by kernel_rfl
theorem sz79 : sizeT Tryz.prog 79 = some 1 := by kernel_rfl
theorem by5 : bytesT Tryz.prog 5 = some 1 := by kernel_rfl
theorem by3 : bytesT Tryz.prog 3 = some 8 := by kernel_rfl
theorem ze5 : zeroT Tryz.prog 5 = some (.val (.int .u8 0)) := by kernel_rfl
theorem ze3 : zeroT Tryz.prog 3 = some (.val (.int .i64 0)) := by kernel_rfl
attribute [simp] sz9 sz3 sz4 sz5 sz25 sz27 sz28 sz22 sz23 sz79 by5 by3 ze5 ze3 Tryz.underlying25 Tryz.underlying27 Tryz.underlying28 Tryz.underlying3 Tryz.underlying9 Tryz.underlying5 Tryz.underlying4 Tryz.underlying22 Tryz.underlying23 Tryz.underlying79
theorem loop_rule {R : Type} {P : Program} {D : Dat} {base n : Nat} {F : St → Option R} {c : Code} {k : Kn} {r : Option R} (Inv : Nat → St → Prop)
    (step : ∀ d st m, Inv d st → (∀ d' st', d' < d → Inv d' st' → loopK P D base n F m c st' k = r) → run P D base n F c st (.again m c k) = r) :
    ∀ m d st, d < m → Inv d st → loopK P D base n F m c st k = r := by
  intro m
  induction m with
  | zero => intro d st h; omega
  | succ m ih =>
    intro d st h hi
    rw [loop_succ]
    exact step d st m hi fun d' st' hd hi' => ih d' st' (by omega) hi'
theorem wrap_i64 {n : Int} (h1 : -9223372036854775808 ≤ n) (h2 : n ≤ 9223372036854775807) : IntKind.i64.wrap n = n := by
  simp only [IntKind.wrap, IntKind.bits, IntKind.signed, Bool.true_and]
  split <;> rename_i h <;> simp at h <;> omega
theorem wrap_u8 {n : Int} (h1 : 0 ≤ n) (h2 : n ≤ 255) : IntKind.u8.wrap n = n := by
  simp only [IntKind.wrap, IntKind.bits, IntKind.signed, Bool.false_and, Bool.false_eq_true, if_false]
  omega
theorem wrap_succ {i m : Nat} (h : i < m) (hm : m ≤ 9223372036854775807) : IntKind.i64.wrap ((i : Int) + 1) = (i : Int) + 1 := wrap_i64 (by omega) (by omega)
theorem get_byte (s : ByteArray) (i : Nat) : s[i]? = s.data.toList[i]? := by
  rw [Array.getElem?_toList]; rfl
theorem size_l {s : ByteArray} {l : List UInt8} (hl : s.data.toList = l) : s.size = l.length := by rw [← hl]; simp
theorem get_l {s : ByteArray} {l : List UInt8} (hl : s.data.toList = l) (i : Nat) : s[i]? = l[i]? := by rw [get_byte, hl]
theorem int_beq (a b : Int) : (a == b) = decide (a = b) := by by_cases h : a = b <;> simp [h]
theorem int_bne (a b : Int) : (a != b) = !decide (a = b) := by by_cases h : a = b <;> simp [h]
attribute [simp] int_beq int_bne
theorem all_take {α : Type} {p : α → Bool} {l : List α} {i : Nat} {c : α} (h : (l.take i).all p = true) (hc : l[i]? = some c) (hp : p c = true) : (l.take (i + 1)).all p = true := by
  rw [List.take_add_one, hc, List.all_append, h]
  simp [hp]
theorem all_not {α : Type} {p : α → Bool} {l : List α} {i : Nat} {c : α} (hc : l[i]? = some c) (hp : p c = false) : l.all p = false := by
  rw [List.all_eq_false]
  exact ⟨c, List.mem_of_getElem? hc, by simp [hp]⟩
end Go.Proofs.YtlhjljplfmmoaaaGreatDoor.Ev
