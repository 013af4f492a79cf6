/-
  backflushlaw13.OptionsSpec, walked: it returns true where the two ways to lead back from a code agree.
-/
import Derived.Test.YtpbajggbinljiaaOptSane
namespace Go.Proofs.Ytpbajggbinljiaa
set_option linter.unusedVariables false
set_option linter.unusedSimpArgs false
set_option linter.unnecessarySimpa false
set_option linter.unusedSectionVars false
open Go.RowKit Go.Shelf
attribute [local go_sem] cell_re frozen_re size_re

/-- a callee that only draws, met in 're w x' -/
theorem calls_drawn_re {P : Program} {f : FuncId} {args : Array Value} {w : World} {x : ReX} {v : Value}
    (h : Calls P f args (re w x) fun e w' => e = .returned v ∧ Drawn (re w x) w') : Calls P f args (re w x) fun e w'' => e = .returned v ∧ ∃ y, w'' = re w y :=
  calls_re (h.mono fun _ _ ⟨he, m, hm⟩ => ⟨he, by rw [hm]; exact below_drewN (Below.refl _ _) m⟩)

set_option maxRecDepth 100000 in
set_option maxHeartbeats 8000000 in
theorem spec_any {lo hi lo2 hi2 : Nat} {s : SrcV} {S : Src} {q : Option Addr} {m cap2 : Nat} {c : List Int} {n : Int} {w : World}
    (hs : RSrc lo hi w s S) (hc : SliceOf RInt 1 lo2 hi2 w q m cap2 c) (hhi : hi ≤ w.heap.size) (hhi2 : hi2 ≤ w.heap.size) (hn : IsI64 n) (hL : refCfgL S n = cfgL S n) (hE : refCfgE S n = cfgE S n) :
    Calls Try.prog 3 #[.agg s.cells.toArray, .slice q m cap2, .int .i64 n] w fun e w' => e = .returned (.bool true) ∧ Below w.heap.size w w' := by
  have hmm := hc.nle
  obtain ⟨⟨up, un, uc⟩, ⟨ip, iN, ic⟩, ⟨pp, pn, pc⟩, ⟨mp, mn, mc⟩, ⟨op, on, oc⟩, ⟨fp, fn, fc⟩, ⟨rp, rn, rc⟩, ⟨sp, sn, sc⟩⟩ := s
  obtain ⟨wB, hwB⟩ : ∃ wB, wB = w.alloc (.cells #[.slice up un uc, .slice ip iN ic, .slice pp pn pc, .slice mp mn mc, .slice op on oc, .slice fp fn fc, .slice rp rn rc, .slice sp sn sc] 31) := ⟨_, rfl⟩
  have hBB : Below w.heap.size w wB := by rw [hwB]; exact (Below.refl _ _).alloc (Nat.le_refl _) _
  have hzB : wB.heap.size = w.heap.size + 1 := by rw [hwB]; simp
  have HO : Hid (Own wB w.heap.size 31 [.slice up un uc, .slice ip iN ic, .slice pp pn pc, .slice mp mn mc, .slice op on oc, .slice fp fn fc, .slice rp rn rc, .slice sp sn sc]) := by show Own _ _ _ _; rw [hwB]; exact Own.new w _ _
  have HS := Lib.hid (hs.keep (Nat.le_refl _) (Nat.le_refl _) (Agree.of_below hBB hhi))
  have HC := Lib.hid (hc.keep RInt.keeps (Nat.le_refl _) (Nat.le_refl _) (Agree.of_below hBB hhi2))
  have Hx := Lib.hid hL
  have HE := Lib.hid hE
  clear hs hc hL hE
  go_enter Try.func3, Try.ntmps3
  go_wp2_with fail
  rw [← hwB]
  clear hwB
  refine (sane_any _).mono ?_
  rintro e w1 ⟨rfl, hb⟩
  have h1 : Below wB.heap.size wB w1 := hb
  have hz1 := hb.size
  clear hb
  have bx1 := own_cells (HO.out.below h1 (by omega))
  have call := few_any (HS.out.keep (Nat.le_refl _) (Nat.le_refl _) (Agree.of_below h1 (by omega))) (by omega)
  go_wp2_with fail
  refine call.mono ?_
  clear call bx1
  rintro e w2 ⟨rfl, hb⟩
  have h2 : Below wB.heap.size wB w2 := h1.trans (hb.mono h1.size)
  have hz2 : w1.heap.size ≤ w2.heap.size := hb.size
  clear hb
  cases hf : fewB S with
  | false =>
    go_wp2_with fail
    go_ret
    exact ⟨rfl, hBB.trans (h2.mono (by omega))⟩
  | true =>
    by_cases hm12 : 12 < m
    · have d1 : decide ((12 : Int) < (m : Int)) = true := by simp; omega
      go_wp2_with fail
      go_ret
      exact ⟨rfl, hBB.trans (h2.mono (by omega))⟩
    · have d1 : decide ((12 : Int) < (m : Int)) = false := by simp; omega
      have bx2 := own_cells (HO.out.below h2 (by omega))
      have call := all_any (HS.out.keep (Nat.le_refl _) (Nat.le_refl _) (Agree.of_below h2 (by omega))) (by omega)
      go_wp2_with fail
      refine call.mono ?_
      clear call bx2
      rintro e w3 ⟨p3, n3, c3, rfl, hall, hb⟩
      have h3 : Below wB.heap.size wB w3 := h2.trans (hb.mono h2.size)
      have hz3 : w2.heap.size ≤ w3.heap.size := hb.size
      have HA := Lib.hid hall
      clear hb hall
      have bx3 := own_cells (HO.out.below h3 (by omega))
      have call := refAll_any (HS.out.keep (Nat.le_refl _) (Nat.le_refl _) (Agree.of_below h3 (by omega))) (by omega)
      go_wp2_with fail
      refine call.mono ?_
      clear call bx3
      rintro e w4 ⟨p4, n4, c4, rfl, hall, hb⟩
      have g4 : Below w3.heap.size w3 w4 := hb
      have h4 : Below wB.heap.size wB w4 := h3.trans (hb.mono h3.size)
      have hz4 : w3.heap.size ≤ w4.heap.size := hb.size
      have HB := Lib.hid hall
      clear hb hall
      have bx4 := own_cells (HO.out.below h4 (by omega))
      have call := codeC_any (HS.out.keep (Nat.le_refl _) (Nat.le_refl _) (Agree.of_below h4 (by omega))) (HC.out.keep RInt.keeps (Nat.le_refl _) (Nat.le_refl _) (Agree.of_below h4 (by omega))) (by omega) (by omega)
      go_wp2_with fail
      refine call.mono ?_
      clear call bx4
      rintro e w5 ⟨rfl, hb⟩
      have g5 : Below w4.heap.size w4 w5 := hb
      have h5 : Below wB.heap.size wB w5 := h4.trans (hb.mono h4.size)
      have hz5 : w4.heap.size ≤ w5.heap.size := hb.size
      clear hb
      have bx5 := own_cells (HO.out.below h5 (by omega))
      have call := refCodeC_any (HS.out.keep (Nat.le_refl _) (Nat.le_refl _) (Agree.of_below h5 (by omega))) (HC.out.keep RInt.keeps (Nat.le_refl _) (Nat.le_refl _) (Agree.of_below h5 (by omega))) (by omega) (by omega)
      go_wp2_with fail
      refine call.mono ?_
      clear call bx5
      rintro e w6 ⟨rfl, hb⟩
      have g6 : Below w5.heap.size w5 w6 := hb
      have h6 : Below wB.heap.size wB w6 := h5.trans (hb.mono h5.size)
      have hz6 : w5.heap.size ≤ w6.heap.size := hb.size
      clear hb
      have bx6 := own_cells (HO.out.below h6 (by omega))
      have call := config_any (n := n) (HS.out.keep (Nat.le_refl _) (Nat.le_refl _) (Agree.of_below h6 (by omega))) (by omega) hn
      go_wp2_with fail
      refine call.mono ?_
      clear call bx6
      rintro e w7 ⟨p7, n7, c7, rfl, hl7, hb⟩
      have g7 : Below w6.heap.size w6 w7 := hb
      have h7 : Below wB.heap.size wB w7 := h6.trans (hb.mono h6.size)
      have hz7 : w6.heap.size ≤ w7.heap.size := hb.size
      have H7 := Lib.hid hl7
      clear hb hl7
      have bx7 := own_cells (HO.out.below h7 (by omega))
      have call := refConfig_any (n := n) (HS.out.keep (Nat.le_refl _) (Nat.le_refl _) (Agree.of_below h7 (by omega))) (by omega)
      rw [Hx.out, HE.out] at call
      go_wp2_with fail
      refine call.mono ?_
      clear call bx7
      rintro e w8 ⟨p8, n8, c8, rfl, hl8, hb⟩
      have g8 : Below w7.heap.size w7 w8 := hb
      have h8 : Below wB.heap.size wB w8 := h7.trans (hb.mono h7.size)
      have hz8 : w7.heap.size ≤ w8.heap.size := hb.size
      have H8 := Lib.hid hl8
      clear hb hl8
      have bx8 := own_cells (HO.out.below h8 (by omega))
      have HA8 := Lib.hid (HA.out.keep (RSlice.keeps RInt.keeps 1) (Nat.le_refl _) (Nat.le_refl _) (Agree.of_below (g4.trans ((g5.trans ((g6.trans ((g7.trans (g8.mono (by omega))).mono (by omega))).mono (by omega))).mono (by omega))) (Nat.le_refl _)))
      have HB8 := Lib.hid (HB.out.keep (RSlice.keeps RInt.keeps 1) (Nat.le_refl _) (Nat.le_refl _) (Agree.of_below (g5.trans ((g6.trans ((g7.trans (g8.mono (by omega))).mono (by omega))).mono (by omega))) (by omega)))
      have H78 := Lib.hid (H7.out.keep RInt.keeps (Nat.le_refl _) (Nat.le_refl _) (Agree.of_below g8 (Nat.le_refl _)))
      have HS8 := Lib.hid (HS.out.keep (Nat.le_refl _) (Nat.le_refl _) (Agree.of_below h8 (by omega)))
      have HC8 := Lib.hid (HC.out.keep RInt.keeps (Nat.le_refl _) (Nat.le_refl _) (Agree.of_below h8 (by omega)))
      have hbx : ∀ x, Below w8.heap.size w8 (re w8 x) := fun x => below_re w8 x (Nat.le_refl _)
      have hbS := fun x => HS8.out.keep (Nat.le_refl _) (Nat.le_refl _) (Agree.of_below (hbx x) (by omega))
      have hbC := fun x => HC8.out.keep RInt.keeps (Nat.le_refl _) (Nat.le_refl _) (Agree.of_below (hbx x) (by omega))
      have call1 := fun x => calls_re (validC_any (hbS x) (hbC x) (by simp; omega) (by simp; omega))
      have call2 := fun x => calls_re (refValid_any (hbS x) (hbC x) (by simp; omega) (by simp; omega))
      have call3 := fun x => calls_drawn_re (same_any (HA8.out.keep (RSlice.keeps RInt.keeps 1) (Nat.le_refl _) (Nat.le_refl _) (Agree.of_below (hbx x) (by omega))) (HB8.out.keep (RSlice.keeps RInt.keeps 1) (Nat.le_refl _) (Nat.le_refl _) (Agree.of_below (hbx x) (by omega))) (by simp; omega) (by first | (simp; done) | (simp; omega)))
      have call4 := fun x => calls_drawn_re (sameInts_any (H78.out.keep RInt.keeps (Nat.le_refl _) (Nat.le_refl _) (Agree.of_below (hbx x) (by omega))) (H8.out.keep RInt.keeps (Nat.le_refl _) (Nat.le_refl _) (Agree.of_below (hbx x) (by omega))) (by simp; omega) (by first | (simp; done) | (simp; omega)))
      rw [decide_eq_true rfl] at call3 call4
      have hsz : w.heap.size < w8.heap.size := by omega
      have e1 : (permB S c == permB S c) = true := by simp
      have e2 : (allE S == allE S) = true := by simp
      have e3 : (codeOf S c == codeOf S c) = true := by simp
      have e4 : (codeE S c == codeE S c) = true := by simp
      have e5 : (cfgE S n == cfgE S n) = true := by simp
      clear hbS hbC
      go_upto_region 11 with fail
      refine wp_region_below (by kernel_rfl) (by kernel_rfl) ?_
      repeat (go_big_quiet_step (first | exact call1 _ | exact call2 _ | exact call3 _ | exact call4 _ | exact rfl))
      refine wpQuiet_nil ?_
      intro w9 hb9
      go_wp2_with fail
      go_ret
      exact ⟨rfl, hBB.trans ((h8.trans (hb9.mono h8.size)).mono (by omega))⟩
end Go.Proofs.Ytpbajggbinljiaa
