/-
  options.configs, slices.Collect at it, options.All: 'allL' in new memory, or the error 130.
-/
import Derived.Test.YtpbajggbinljiaaOptConfigs
namespace Go.Proofs.Ytpbajggbinljiaa
set_option linter.unusedVariables false
set_option linter.unusedSimpArgs false
set_option linter.unnecessarySimpa false
set_option linter.unusedSectionVars false
open Go.RowKit Go.Shelf
attribute [local go_sem] cell_re frozen_re size_re

theorem configs_any (s : SrcV) (w : World) :
    Calls Try.prog 28 #[.agg s.cells.toArray] w fun e w' => e = .returned (.func (.func 40) #[] #[.pointer (some ⟨w.heap.size, 0, none⟩)]) ∧ w' = w.alloc (.cells s.cells.toArray 31) := by
  obtain ⟨⟨up, un, uc⟩, ⟨ip, iN, ic⟩, ⟨pp, pn, pc⟩, ⟨mp, mn, mc⟩, ⟨op, on, oc⟩, ⟨fp, fn, fc⟩, ⟨rp, rn, rc⟩, ⟨sp, sn, sc⟩⟩ := s
  go_enter Try.func28, Try.ntmps28
  go_wp2_with fail
  go_ret
  exact ⟨rfl, rfl⟩

/-- all configurations, collected -/
theorem collectL_any {lo hi : Nat} {s : SrcV} {S : Src} {w : World} {box : Nat} (hs : RSrc lo hi w s S) (hhi : hi ≤ w.heap.size) (hv : validB S = true) (hbox : box < w.heap.size)
    (hbx : ∀ j, w.cell? ⟨box, j, none⟩ = s.cells[j]?) :
    Calls Try.prog 27 #[.func (.func 40) #[] #[.pointer (some ⟨box, 0, none⟩)]] w (GivesC (RSlice RInt 1) 1 32 (fun xs => xs = allL S) w) := by
  have call := appendSeq_lists (gf := 40) (lb := #[.pointer (some ⟨box, 0, none⟩)]) (n0 := w.heap.size) (N := 4096) (S := fun xs => xs = allL S) (w := w) (enters_of Try.func40 (by kernel_rfl) rfl) (Nat.le_refl _) (Nat.le_refl _)
    (fun W hW hz => configs1_any (hs.keep (Nat.le_refl _) (Nat.le_refl _) (Agree.of_below hW hhi)) hhi (by omega) hv hbox (fun j => (hW.cell (by show box < _; omega)).trans (hbx j)) hz)
  go_enter Try.func27, Try.ntmps27
  go_wp2_with fail
  refine call.mono ?_
  rintro e w1 ⟨xs, v, ⟨hS, _⟩, rfl, hsl, hb⟩
  go_wp2_with fail
  go_ret
  exact ⟨xs, v, hS, rfl, hsl, hb⟩

set_option maxHeartbeats 800000 in
theorem all_any {lo hi : Nat} {s : SrcV} {S : Src} {w : World} (hs : RSrc lo hi w s S) (hhi : hi ≤ w.heap.size) :
    Calls Try.prog 10 #[.agg s.cells.toArray] w (GivesLists w (allL S) (allE S)) := by
  obtain ⟨⟨up, un, uc⟩, ⟨ip, iN, ic⟩, ⟨pp, pn, pc⟩, ⟨mp, mn, mc⟩, ⟨op, on, oc⟩, ⟨fp, fn, fc⟩, ⟨rp, rn, rc⟩, ⟨sp, sn, sc⟩⟩ := s
  have hb0 : ∀ o1, Below w.heap.size w (w.alloc o1) := fun o1 => (Below.refl _ w).alloc (Nat.le_refl _) _
  have call := fun o1 => valid_any (hs.keep (Nat.le_refl _) (Nat.le_refl _) (Agree.of_below (hb0 o1) hhi)) (by simp; omega)
  cases hv : validB S with
  | false =>
    rw [hv] at call
    have Hf := Lib.hid hv
    clear hv
    go_enter Try.func10, Try.ntmps10
    go_wp2_with fail
    refine (call _).mono ?_
    rintro e w1 ⟨rfl, hb⟩
    go_wp2_with fail
    go_ret2
    refine ⟨none, 0, 0, ?_, ?_, (hb0 _).trans (hb.mono (by simp))⟩
    · rw [allE, Hf.out]; rfl
    · rw [allL, Hf.out]; exact slice_nil _ _ _ _ _
  | true =>
    rw [hv] at call
    have Hv := Lib.hid hv
    clear hv
    go_enter Try.func10, Try.ntmps10
    go_wp2_with fail
    refine (call _).mono ?_
    clear call
    rintro e w1 ⟨rfl, hb⟩
    have hbw : Below w.heap.size w w1 := (hb0 _).trans (hb.mono (by simp))
    have bx : ∀ j, w1.cell? ⟨w.heap.size, j, none⟩ = (SrcV.cells ⟨⟨up, un, uc⟩, ⟨ip, iN, ic⟩, ⟨pp, pn, pc⟩, ⟨mp, mn, mc⟩, ⟨op, on, oc⟩, ⟨fp, fn, fc⟩, ⟨rp, rn, rc⟩, ⟨sp, sn, sc⟩⟩)[j]? := fun j => (hb.cell (by simp)).trans (by simp)
    dsimp only [SrcV.cells] at bx
    have hsz := hbw.size
    clear hb hb0
    go_wp2_with fail
    refine (configs_any ⟨⟨up, un, uc⟩, ⟨ip, iN, ic⟩, ⟨pp, pn, pc⟩, ⟨mp, mn, mc⟩, ⟨op, on, oc⟩, ⟨fp, fn, fc⟩, ⟨rp, rn, rc⟩, ⟨sp, sn, sc⟩⟩ w1).mono ?_
    rintro e w2 ⟨rfl, hw2⟩
    have hb2 : Below w1.heap.size w1 w2 := by rw [hw2]; exact (Below.refl _ w1).alloc (Nat.le_refl _) _
    have hbx2 : ∀ j, w2.cell? ⟨w1.heap.size, j, none⟩ = (SrcV.cells ⟨⟨up, un, uc⟩, ⟨ip, iN, ic⟩, ⟨pp, pn, pc⟩, ⟨mp, mn, mc⟩, ⟨op, on, oc⟩, ⟨fp, fn, fc⟩, ⟨rp, rn, rc⟩, ⟨sp, sn, sc⟩⟩)[j]? := fun j => by rw [hw2]; simp
    have hz2 : w2.heap.size = w1.heap.size + 1 := by rw [hw2]; simp
    clear hw2
    go_wp2_with fail
    refine (collectL_any (hs.keep (Nat.le_refl _) (Nat.le_refl _) (Agree.of_below (hbw.trans (hb2.mono hsz)) hhi)) (by omega) Hv.out (by omega) hbx2).mono ?_
    rintro e w3 ⟨xs, v, rfl, rfl, hcol, hb3⟩
    obtain ⟨p, cap, rfl, hsl⟩ := hcol.slice (RSlice.keeps RInt.keeps 1)
    go_wp2_with fail
    go_ret2
    refine ⟨p, _, cap, ?_, hsl.keep (RSlice.keeps RInt.keeps 1) (by omega) (Nat.le_refl _) (Agree.refl _ _ _), (hbw.trans (hb2.mono hsz)).trans (hb3.mono (by omega))⟩
    rw [allE, Hv.out]; rfl
end Go.Proofs.Ytpbajggbinljiaa
