/-
  cmp.Or at ints; the order of places (options.places's own comparison).
-/
import Derived.Test.YtpbajggbinljiaaOptSorted
import Derived.Test.YtpbajggbinljiaaOptSeqP
import Derived.Test.YtpbajggbinljiaaRel
namespace Go.Proofs.Ytpbajggbinljiaa
set_option linter.unusedVariables false
set_option linter.unusedSimpArgs false
set_option linter.unnecessarySimpa false
set_option linter.unusedSectionVars false
open Go.RowKit Go.Shelf

/-- the first of two numbers that is not 0 -/
def orI (x y : Int) : Int := if x = 0 then y else x
set_option maxHeartbeats 800000 in
theorem or_any (b : Nat) (x y : Int) (cap : Nat) (w : World) (h0 : w.cell? ⟨b, 0, none⟩ = some (.int .i64 x)) (h1 : w.cell? ⟨b, 1, none⟩ = some (.int .i64 y)) :
    Calls Try.prog 47 #[.slice (some ⟨b, 0, none⟩) 2 cap] w fun e w' => e = .returned (.int .i64 (orI x y)) ∧ w' = w := by
  by_cases hx : x = 0
  · subst hx
    have hz : ((0 : Int) != 0) = false := rfl
    by_cases hy : y = 0
    · subst hy
      go_enter Try.func47, Try.ntmps47
      go_wp2_with fail
      refine wp_loop_rounds 3 ?_
      rw [rounds_succ]
      go_wp2_with fail
      rw [rounds_succ]
      go_wp2_with fail
      rw [rounds_succ]
      go_wp2_with fail
      go_ret
      exact ⟨rfl, rfl⟩
    · have hy' : (y != 0) = true := by simpa using hy
      go_enter Try.func47, Try.ntmps47
      go_wp2_with fail
      refine wp_loop_rounds 2 ?_
      rw [rounds_succ]
      go_wp2_with fail
      rw [rounds_succ]
      go_wp2_with fail
      go_ret
      exact ⟨ret_int (by simp [orI]), rfl⟩
  · have hx' : (x != 0) = true := by simpa using hx
    go_enter Try.func47, Try.ntmps47
    go_wp2_with fail
    refine wp_loop_rounds 1 ?_
    rw [rounds_succ]
    go_wp2_with fail
    go_ret
    exact ⟨ret_int (by simp [orI, hx]), rfl⟩

def cmpP (x y : Int × Int) : Int := orI (Lib.compareInt x.1 y.1) (Lib.compareInt x.2 y.2)
set_option maxRecDepth 100000 in
set_option maxHeartbeats 2000000 in
theorem places1_any (x1 x2 y1 y2 : Int) (W : World) :
    Calls Try.prog 46 #[.agg #[.int .i64 x1, .int .i64 x2], .agg #[.int .i64 y1, .int .i64 y2]] W fun e w' => e = .returned (.int .i64 (cmpP (x1, x2) (y1, y2))) ∧ Grown W w' := by
  have hcon : ∀ x y W', Calls Try.prog 48 #[.int .i64 x, .int .i64 y] W' fun e w' => e = .returned (.int .i64 (Lib.compareInt x y)) ∧ w' = W' := fun x y W' => AnyG.cmp_Compare_int Try.cmpI x y W'
  unfold cmpP
  dsimp only
  have h1 := hcon x1 y1
  have h2 := hcon x2 y2
  generalize Lib.compareInt x1 y1 = c1 at h1 ⊢
  generalize Lib.compareInt x2 y2 = c2 at h2 ⊢
  clear hcon
  go_enter Try.func46, Try.ntmps46
  go_wp2_with fail
  generalize hw0 : (World.alloc _ _ : World) = w0
  have g0 : Grown W w0 := by rw [← hw0]; exact (Grown.alloc _ _).trans (Grown.alloc _ _)
  have k1 : w0.cell? ⟨W.heap.size, 0, none⟩ = some (.int .i64 x1) := by rw [← hw0]; simp
  have k2 : w0.cell? ⟨W.heap.size, 1, none⟩ = some (.int .i64 x2) := by rw [← hw0]; simp
  have k3 : w0.cell? ⟨W.heap.size + 1, 0, none⟩ = some (.int .i64 y1) := by rw [← hw0]; simp
  have k4 : w0.cell? ⟨W.heap.size + 1, 1, none⟩ = some (.int .i64 y2) := by rw [← hw0]; simp
  have hz : w0.heap.size = W.heap.size + 2 := by rw [← hw0]; simp
  clear hw0
  refine wp_region_rel Grown [eqV (.pointer (some ⟨W.heap.size, 0, none⟩)), eqV (.int .i64 x1), eqV (.pointer (some ⟨W.heap.size + 1, 0, none⟩)), eqV (.int .i64 y1), eqV (.int .i64 c1),
    eqV (.pointer (some ⟨W.heap.size, 1, none⟩)), eqV (.int .i64 x2), eqV (.pointer (some ⟨W.heap.size + 1, 1, none⟩)), eqV (.int .i64 y2), eqV (.int .i64 c2),
    fun v w => ∃ b, v = .slice (some ⟨b, 0, none⟩) 2 2 ∧ b < w.heap.size ∧ w.cell? ⟨b, 0, none⟩ = some (.int .i64 c1) ∧ w.cell? ⟨b, 1, none⟩ = some (.int .i64 c2), eqV (.int .i64 (orI c1 c2)), eqV (.int .i64 (orI c1 c2))] (by kernel_rfl) (by kernel_rfl) rfl Grown.refl (fun _ _ _ => Grown.trans) ?mono ?walk
  case mono =>
    intro j R hR v w w' hg hv
    match j, hR with
    | 0, hR | 1, hR | 2, hR | 3, hR | 4, hR | 5, hR | 6, hR | 7, hR | 8, hR | 9, hR | 11, hR | 12, hR => simp at hR; subst hR; exact hv
    | 10, hR =>
      simp at hR; subst hR
      obtain ⟨b, e, hb, q1, q2⟩ := hv
      exact ⟨b, e, Nat.lt_of_lt_of_le hb hg.below.size, (hg.below.cell (p := ⟨b, 0, none⟩) hb).trans q1, (hg.below.cell (p := ⟨b, 1, none⟩) hb).trans q2⟩
    | j + 13, hR => simp at hR
  case walk =>
    have kk : Hid (∀ w, Grown { w0 with drawn := w0.drawn + 1 } w → w.cell? ⟨W.heap.size, 0, none⟩ = some (.int .i64 x1) ∧ w.cell? ⟨W.heap.size, 1, none⟩ = some (.int .i64 x2) ∧ w.cell? ⟨W.heap.size + 1, 0, none⟩ = some (.int .i64 y1) ∧ w.cell? ⟨W.heap.size + 1, 1, none⟩ = some (.int .i64 y2)) := fun w hw =>
      ⟨(hw.below.cell (p := ⟨W.heap.size, 0, none⟩) (by show W.heap.size < w0.heap.size; omega)).trans k1, (hw.below.cell (p := ⟨W.heap.size, 1, none⟩) (by show W.heap.size < w0.heap.size; omega)).trans k2, (hw.below.cell (p := ⟨W.heap.size + 1, 0, none⟩) (by show W.heap.size + 1 < w0.heap.size; omega)).trans k3, (hw.below.cell (p := ⟨W.heap.size + 1, 1, none⟩) (by show W.heap.size + 1 < w0.heap.size; omega)).trans k4⟩
    have G0 := Lib.hid (g0.trans (Grown.drew w0))
    clear k1 k2 k3 k4
    refine ⟨fun w hw hn => ?_, fun v => ?_⟩
    · obtain ⟨k1, k2, k3, k4⟩ := kk.out w hw
      simp [needs, tempsOf, eqV, Op.operands, Call.operands] at hn
      skip
      go_wp2_with fail
      exact ⟨rfl, rfl, Grown.refl _, rfl⟩
    simp only [Act.put, List.setIfInBounds_toArray, List.set_cons_succ, List.set_cons_zero]
    refine ⟨fun w hw hn => ?_, fun v => ?_⟩
    · obtain ⟨k1, k2, k3, k4⟩ := kk.out w hw
      simp [needs, tempsOf, eqV, Op.operands, Call.operands] at hn
      subst hn
      go_wp2_with fail
      exact ⟨rfl, rfl, Grown.refl _, rfl⟩
    simp only [Act.put, List.setIfInBounds_toArray, List.set_cons_succ, List.set_cons_zero]
    refine ⟨fun w hw hn => ?_, fun v => ?_⟩
    · obtain ⟨k1, k2, k3, k4⟩ := kk.out w hw
      simp [needs, tempsOf, eqV, Op.operands, Call.operands] at hn
      skip
      go_wp2_with fail
      exact ⟨rfl, rfl, Grown.refl _, rfl⟩
    simp only [Act.put, List.setIfInBounds_toArray, List.set_cons_succ, List.set_cons_zero]
    refine ⟨fun w hw hn => ?_, fun v => ?_⟩
    · obtain ⟨k1, k2, k3, k4⟩ := kk.out w hw
      simp [needs, tempsOf, eqV, Op.operands, Call.operands] at hn
      subst hn
      go_wp2_with fail
      exact ⟨rfl, rfl, Grown.refl _, rfl⟩
    simp only [Act.put, List.setIfInBounds_toArray, List.set_cons_succ, List.set_cons_zero]
    refine ⟨fun w hw hn => ?_, fun v => ?_⟩
    · obtain ⟨k1, k2, k3, k4⟩ := kk.out w hw
      simp [needs, tempsOf, eqV, Op.operands, Call.operands] at hn
      obtain ⟨hn1, hn2⟩ := hn; subst hn1 hn2
      go_wp2_with (go_at_call 48; refine (h1 _).mono ?_; rintro e w' ⟨rfl, rfl⟩)
      exact ⟨rfl, rfl, Grown.refl _, rfl⟩
    simp only [Act.put, List.setIfInBounds_toArray, List.set_cons_succ, List.set_cons_zero]
    refine ⟨fun w hw hn => ?_, fun v => ?_⟩
    · obtain ⟨k1, k2, k3, k4⟩ := kk.out w hw
      simp [needs, tempsOf, eqV, Op.operands, Call.operands] at hn
      skip
      go_wp2_with fail
      exact ⟨rfl, rfl, Grown.refl _, rfl⟩
    simp only [Act.put, List.setIfInBounds_toArray, List.set_cons_succ, List.set_cons_zero]
    refine ⟨fun w hw hn => ?_, fun v => ?_⟩
    · obtain ⟨k1, k2, k3, k4⟩ := kk.out w hw
      simp [needs, tempsOf, eqV, Op.operands, Call.operands] at hn
      subst hn
      go_wp2_with fail
      exact ⟨rfl, rfl, Grown.refl _, rfl⟩
    simp only [Act.put, List.setIfInBounds_toArray, List.set_cons_succ, List.set_cons_zero]
    refine ⟨fun w hw hn => ?_, fun v => ?_⟩
    · obtain ⟨k1, k2, k3, k4⟩ := kk.out w hw
      simp [needs, tempsOf, eqV, Op.operands, Call.operands] at hn
      skip
      go_wp2_with fail
      exact ⟨rfl, rfl, Grown.refl _, rfl⟩
    simp only [Act.put, List.setIfInBounds_toArray, List.set_cons_succ, List.set_cons_zero]
    refine ⟨fun w hw hn => ?_, fun v => ?_⟩
    · obtain ⟨k1, k2, k3, k4⟩ := kk.out w hw
      simp [needs, tempsOf, eqV, Op.operands, Call.operands] at hn
      subst hn
      go_wp2_with fail
      exact ⟨rfl, rfl, Grown.refl _, rfl⟩
    simp only [Act.put, List.setIfInBounds_toArray, List.set_cons_succ, List.set_cons_zero]
    refine ⟨fun w hw hn => ?_, fun v => ?_⟩
    · obtain ⟨k1, k2, k3, k4⟩ := kk.out w hw
      simp [needs, tempsOf, eqV, Op.operands, Call.operands] at hn
      obtain ⟨hn1, hn2⟩ := hn; subst hn1 hn2
      go_wp2_with (go_at_call 48; refine (h2 _).mono ?_; rintro e w' ⟨rfl, rfl⟩)
      exact ⟨rfl, rfl, Grown.refl _, rfl⟩
    simp only [Act.put, List.setIfInBounds_toArray, List.set_cons_succ, List.set_cons_zero]
    refine ⟨fun w hw hn => ?_, fun v => ?_⟩
    · simp [needs, tempsOf, eqV, Op.operands, Call.operands] at hn
      obtain ⟨hn1, hn2⟩ := hn; subst hn1 hn2
      go_wp2_with fail
      exact ⟨rfl, rfl, Grown.alloc _ _, _, rfl, by simp, by simp, by simp⟩
    simp only [Act.put, List.setIfInBounds_toArray, List.set_cons_succ, List.set_cons_zero]
    refine ⟨fun w hw hn => ?_, fun v => ?_⟩
    · simp [needs, tempsOf, eqV, Op.operands, Call.operands] at hn
      obtain ⟨b, hn1, hb, q1, q2⟩ := hn
      subst hn1
      go_wp2_with (go_at_call 47; refine (or_any _ c1 c2 _ _ q1 q2).mono ?_; rintro e w' ⟨rfl, rfl⟩)
      exact ⟨rfl, rfl, Grown.refl _, rfl⟩
    simp only [Act.put, List.setIfInBounds_toArray, List.set_cons_succ, List.set_cons_zero]
    refine ⟨fun w hw hn => ?_, fun v => ?_⟩
    · simp [needs, tempsOf, eqV, Op.operands, Call.operands] at hn
      subst hn
      go_wp2_with fail
      exact ⟨rfl, rfl, Grown.refl _, rfl⟩
    simp only [Act.put, List.setIfInBounds_toArray, List.set_cons_succ, List.set_cons_zero]
    intro w hw hn
    have hv : v = .int .i64 (orI c1 c2) := hn.1
    subst hv
    clear hn kk
    go_wp2_with fail
    go_ret
    exact ⟨rfl, G0.out.trans hw⟩
end Go.Proofs.Ytpbajggbinljiaa
