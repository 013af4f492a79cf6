/-
  A load of a struct of many cells, and the store of one into the block made last, each as one law of the walk (whatever the number of cells).
-/
import Derived.Test.YtpbajggbinljiaaMem
import Derived.Deep.WholeRow
import Derived.Shelf.SlicesQ.Load
namespace Go.Proofs.Ytpbajggbinljiaa
set_option linter.unusedVariables false
set_option linter.unusedSimpArgs false
set_option linter.unnecessarySimpa false
set_option linter.unusedSectionVars false
open Go.RowKit

section
variable {P : Program} {w : World} {ops : Array Oper} {rest : List Oper} {o : Oper} {a : Act} {Q : Exit → Act → World → Prop}
theorem run_loadAt_agg {t : TypeId} {b off k : Nat} (hA : ∀ w, (isAgg t).run P w = .ok true w) (hZ : ∀ w, (sizeOf t).run P w = .ok k w) (vs : List Value) (hl : vs.length = k)
    (hc : ∀ j u, vs[j]? = some u → w.cell? ⟨b, off + j, none⟩ = some u) : (Instr.loadAt t (.pointer (some ⟨b, off, none⟩))).run P w = .ok (.agg vs.toArray) w := by
  have h := run_loadCellsFrom_list P w ⟨b, off, none⟩ vs k hl (fun j v hv => by
    have hadd : (⟨b, off, none⟩ : Addr).add j = ⟨b, off + j, none⟩ := by unfold Addr.add; split <;> simp_all
    rw [hadd]; exact hc j v hv)
  simp only [Instr.loadAt, Instr.sureAddr, Sem.run_bind, Sem.run_pure, Result.andThen, loadVar, hA, hZ, loadCells, if_true, h]
theorem wpList_load_agg (hg : o.guard = none) (t : TypeId) (x : Operand) (hop : o.op = Op.load t x) {b off k : Nat} (hx : a.eval x = .pointer (some ⟨b, off, none⟩)) (hA : ∀ w, (isAgg t).run P w = .ok true w) (hZ : ∀ w, (sizeOf t).run P w = .ok k w)
    (vs : List Value) (hl : vs.length = k) (hc : ∀ j u, vs[j]? = some u → w.cell? ⟨b, off + j, none⟩ = some u) (h : wpList P ops Q rest (a.put o.dst (.agg vs.toArray)) w) : wpList P ops Q (o :: rest) a w := by
  refine wpList_plain hg fun K hK => ?_
  unfold Oper.wp execOp
  simp only [hop, hx, Sem.run_bind, run_loadAt_agg hA hZ vs hl hc, Result.andThen_ok, Sem.run_pure]
  exact hK _ _ h
theorem wpList_make_eq {w' : World} (hg : o.guard = none) (t : TypeId) (x y : Operand) (hop : o.op = Op.makeSlice t x y) {ux uy v : Value} (hx : a.eval x = ux) (hy : a.eval y = uy) (hr : (Instr.makeSlice t ux uy).run P w = .ok v w')
    (h : wpList P ops Q rest (a.put o.dst v) w') : wpList P ops Q (o :: rest) a w := by
  refine wpList_plain hg fun K hK => ?_
  unfold Oper.wp execOp
  simp only [hop, hx, hy, Sem.run_bind, hr, Result.andThen_ok, Sem.run_pure]
  exact hK _ _ h
theorem wpList_index_eq (hg : o.guard = none) (t : TypeId) (x y : Operand) (hop : o.op = Op.index t x y) {ux uy v : Value} (hx : a.eval x = ux) (hy : a.eval y = uy) (hr : (Instr.index t ux uy).run P w = .ok v w)
    (h : wpList P ops Q rest (a.put o.dst v) w) : wpList P ops Q (o :: rest) a w := by
  refine wpList_plain hg fun K hK => ?_
  unfold Oper.wp execOp
  simp only [hop, hx, hy, Sem.run_bind, hr, Result.andThen_ok, Sem.run_pure]
  exact hK _ _ h
theorem wpList_store_new {w0 : World} (hg : o.guard = none) (t : TypeId) (x y : Operand) (hop : o.op = Op.store t x y) {c : Array Value} (hw : w0 = w.alloc (.cells c t)) (hx : a.eval x = .pointer (some ⟨w.heap.size, 0, none⟩)) (vs : List Value) (hy : a.eval y = .agg vs.toArray)
    (hi : (P.info? t).map (·.size) = some vs.length) (ho : c.size = vs.length) (h1 : vs.all (·.oneCell') = true) (h : wpList P ops Q rest (a.put o.dst undef) (w.alloc (.cells vs.toArray t))) : wpList P ops Q (o :: rest) a w0 := by
  subst hw
  have hs := run_storeAt_new (P := P) w t c vs.toArray (by simpa using hi) (by simpa using ho) (by simpa using h1)
  refine wpList_plain hg fun K hK => ?_
  unfold Oper.wp execOp
  simp only [hop, hx, hy, Sem.run_bind, hs, Result.andThen_ok, Sem.run_pure]
  exact hK _ _ h
end
end Go.Proofs.Ytpbajggbinljiaa
