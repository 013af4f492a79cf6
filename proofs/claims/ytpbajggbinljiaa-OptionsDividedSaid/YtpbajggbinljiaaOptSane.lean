/-
  backflushlaw13.sane: the chapter's examples hold.
-/
import Derived.Test.YtpbajggbinljiaaOptSample
namespace Go.Proofs.Ytpbajggbinljiaa
set_option linter.unusedVariables false
set_option linter.unusedSimpArgs false
set_option linter.unnecessarySimpa false
set_option linter.unusedSectionVars false
open Go.RowKit Go.Shelf
attribute [local go_sem] cell_re frozen_re size_re

theorem SliceOf.take {α : Type} {R : Rel α} {sz lo hi : Nat} {w : World} {p : Option Addr} {n cap : Nat} {l : List α} (h : SliceOf R sz lo hi w p n cap l) {k : Nat} (hk : k ≤ n) : SliceOf R sz lo hi w p k cap (l.take k) := by
  have := h.len; have := h.le
  refine ⟨by simp; omega, by omega, h.max, fun i x hx => ?_⟩
  rw [List.getElem?_take] at hx
  split at hx
  · exact h.get i x hx
  · cases hx
def sample3S : Src := { sampleS with recipes := sampleS.recipes.take 3 }
def emptySrc : Src := ⟨[], [], [], 0, 0⟩
def oneSrc : Src := ⟨[0], [], [], 0, 0⟩
theorem ev_all : allL sampleS = [[0, 0], [0, 1], [0, 2], [1, 0], [1, 1], [2, 0], [2, 1]] := by kernel_rfl
theorem ev_allE : allE sampleS = 0 := by kernel_rfl
theorem ev_code1 : codeE sampleS [2, 1] = 0 := by kernel_rfl
theorem ev_code2 : codeE sampleS [2, 2] = 130 := by kernel_rfl
theorem ev_codeN : codeOf sampleS [2, 1] = 9 := by kernel_rfl
theorem ev_cfg9 : cfgL sampleS 9 = [2, 1] := by kernel_rfl
theorem ev_cfgE9 : cfgE sampleS 9 = 0 := by kernel_rfl
theorem ev_cfgE10 : cfgE sampleS 10 = 130 := by kernel_rfl
theorem ev_which : whichL sampleS 0 0 7 [2, 0] = [3] := by kernel_rfl
theorem ev_whichE : whichE sampleS [2, 0] = 0 := by kernel_rfl
theorem ev_hole : (holeOf sampleS).isSome = false := by kernel_rfl
theorem ev_hole3 : holeOf sample3S = some ((0, 0), 7, [2, 0]) := by kernel_rfl
theorem ev_holeV3 : holeV sample3S = ⟨0, 0, 7, [2, 0], 0⟩ := by kernel_rfl
theorem ev_which3 : whichL sample3S 0 0 7 [2, 0] = [] := by kernel_rfl
theorem ev_allE3 : allE sample3S = 0 := by kernel_rfl
theorem ev_allEmpty : allL emptySrc = [[]] := by kernel_rfl
theorem ev_allEEmpty : allE emptySrc = 0 := by kernel_rfl
theorem ev_codeEmpty : codeE emptySrc [] = 0 := by kernel_rfl
theorem ev_codeNEmpty : codeOf emptySrc [] = 0 := by kernel_rfl
theorem ev_cfgEmpty : cfgE emptySrc 1 = 130 := by kernel_rfl
theorem ev_holeEmpty : (holeOf emptySrc).isSome = false := by kernel_rfl
theorem ev_allEOne : allE oneSrc = 130 := by kernel_rfl
theorem ev_valid1 : permB sampleS [0, 2] = true := by kernel_rfl
theorem ev_valid2 : permB sampleS [3, 0] = false := by kernel_rfl

theorem own_cells {w : World} {g : Nat} {e : TypeId} {xs : List Value} (h : Own w g e xs) (j : Nat) : w.cell? ⟨g, j, none⟩ = xs[j]? := by unfold Own at h; simp [World.cell?, h]
theorem ints_new (w : World) (t : TypeId) (l : List Int) (hm : l.length ≤ 100) (hw : ∀ x ∈ l, IsI64 x) : SliceOf RInt 1 w.heap.size (w.heap.size + 1) (w.alloc (.cells (l.map (Value.int .i64)).toArray t)) (some ⟨w.heap.size, 0, none⟩) l.length l.length l := by
  have := Own.new w (l.map (Value.int .i64)) t
  exact this.slice (by simp) (by omega) (Nat.le_refl _) (by omega) (fun i x u hx hu => by
    rw [List.getElem?_map, hx] at hu
    simp only [Option.map_some, Option.some.injEq] at hu
    exact ⟨by rw [← hu], hw x (List.mem_of_getElem? hx)⟩)
theorem rsrc_nil (lo hi : Nat) (w : World) : RSrc lo hi w (⟨⟨none, 0, 0⟩, ⟨none, 0, 0⟩, ⟨none, 0, 0⟩, ⟨none, 0, 0⟩, ⟨none, 0, 0⟩, ⟨none, 0, 0⟩, ⟨none, 0, 0⟩, ⟨none, 0, 0⟩⟩ : SrcV) emptySrc := ⟨slice_nil _ _ _ _ _, slice_nil _ _ _ _ _, slice_nil _ _ _ _ _, ⟨rfl, by simp [emptySrc]⟩, ⟨rfl, by simp [emptySrc]⟩⟩
theorem i64_small {x : Int} (h : -1000 ≤ x ∧ x ≤ 1000) : IsI64 x := ⟨by omega, by omega⟩

set_option maxRecDepth 100000 in
set_option maxHeartbeats 8000000 in
theorem sane_any (w : World) : Calls Try.prog 8 #[] w fun e w' => e = .returned (.bool true) ∧ Below w.heap.size w w' := by
  go_enter Try.func8, Try.ntmps8
  go_wp2_with fail
  refine (sample_any _).mono ?_
  rintro e w1 ⟨s, rfl, hs, hb1⟩
  have h3 : s.re.n = 4 := hs.re.len.symm
  obtain ⟨⟨up, un, uc⟩, ⟨ip, iN, ic⟩, ⟨pp, pn, pc⟩, ⟨mp, mn, mc⟩, ⟨op, on, oc⟩, ⟨fp, fn, fc⟩, ⟨rp, rn, rc⟩, ⟨sp, sn, sc⟩⟩ := s
  dsimp only at h3
  subst h3
  have hrc := hs.re.le
  dsimp only at hrc
  have hz1 := hb1.size
  obtain ⟨wB, hwB⟩ : ∃ wB, wB = w1.alloc (.cells #[.slice up un uc, .slice ip iN ic, .slice pp pn pc, .slice mp mn mc, .slice op on oc, .slice fp fn fc, .slice rp 4 rc, .slice sp sn sc] 31) := ⟨_, rfl⟩
  have hBB : Below w1.heap.size w1 wB := by rw [hwB]; exact (Below.refl _ _).alloc (Nat.le_refl _) _
  have hzB : wB.heap.size = w1.heap.size + 1 := by rw [hwB]; simp
  have HO : Hid (Own wB w1.heap.size 31 [.slice up un uc, .slice ip iN ic, .slice pp pn pc, .slice mp mn mc, .slice op on oc, .slice fp fn fc, .slice rp 4 rc, .slice sp sn sc]) := by show Own _ _ _ _; rw [hwB]; exact Own.new w1 _ _
  have HS := Lib.hid (hs.keep (Nat.le_refl _) (Nat.le_refl _) (Agree.of_below hBB (Nat.le_refl _)))
  clear hs
  go_wp2_with fail

  rw [← hwB]
  clear hwB
  have call := all_any HS.out (by omega)
  rw [ev_all, ev_allE] at call
  refine call.mono ?_
  clear call
  rintro e w2 ⟨p2, n2, c2, rfl, hall, hb⟩
  have hn2 : n2 = 7 := hall.len.symm
  subst hn2
  have hz2 := hb.size
  have h2 : Below wB.heap.size wB w2 := hb
  have HALL := Lib.hid hall
  clear hb hall
  have bx2 := own_cells (HO.out.below h2 (by omega))
  have hs2 := HS.out.keep (Nat.le_refl _) (Nat.le_refl _) (Agree.of_below h2 (by omega))
  have hA : Below w2.heap.size w2 (w2.alloc (.cells #[.int .i64 2, .int .i64 1] 3)) := (Below.refl _ _).alloc (Nat.le_refl _) _
  have hI := ints_new w2 3 [2, 1] (by decide) (fun x hx => by simp at hx; rcases hx with rfl | rfl <;> exact i64_small (by omega))
  have call := codeC_any (hs2.keep (Nat.le_refl _) (Nat.le_refl _) (Agree.of_below hA (by omega))) hI (by simp; omega) (by simp)
  rw [ev_codeN, ev_code1] at call
  clear hs2 hI
  go_wp2_with fail
  refine call.mono ?_
  clear call bx2
  rintro e w3 ⟨rfl, hb⟩
  have h3 : Below wB.heap.size wB w3 := h2.trans ((hA.trans (hb.mono (by simp))).mono h2.size)
  have hz3 : w2.heap.size ≤ w3.heap.size := Nat.le_trans hA.size hb.size
  have g23 : Below w2.heap.size w2 w3 := (Below.refl _ _).trans ((hA.trans (hb.mono (by simp))).mono (Nat.le_refl _))
  clear hb hA
  have bx3 := own_cells (HO.out.below h3 (by omega))
  have hs3 := HS.out.keep (Nat.le_refl _) (Nat.le_refl _) (Agree.of_below h3 (by omega))
  have hA : Below w3.heap.size w3 (w3.alloc (.cells #[.int .i64 2, .int .i64 2] 3)) := (Below.refl _ _).alloc (Nat.le_refl _) _
  have hI := ints_new w3 3 [2, 2] (by decide) (fun x hx => by simp at hx; rcases hx with rfl | rfl <;> exact i64_small (by omega))
  have call := codeC_any (hs3.keep (Nat.le_refl _) (Nat.le_refl _) (Agree.of_below hA (by omega))) hI (by simp; omega) (by simp)
  rw [ev_code2] at call
  clear hs3 hI
  go_wp2_with fail
  refine call.mono ?_
  clear call bx3
  rintro e w4 ⟨rfl, hb⟩
  have h4 : Below wB.heap.size wB w4 := h3.trans ((hA.trans (hb.mono (by simp))).mono h3.size)
  have hz4 : w3.heap.size ≤ w4.heap.size := Nat.le_trans hA.size hb.size
  have g24 : Below w2.heap.size w2 w4 := g23.trans ((hA.trans (hb.mono (by simp))).mono g23.size)
  clear hb hA
  have bx4 := own_cells (HO.out.below h4 (by omega))
  have hs4 := HS.out.keep (Nat.le_refl _) (Nat.le_refl _) (Agree.of_below h4 (by omega))
  have call := config_any (n := 9) hs4 (by omega) (i64_small (by omega))
  rw [ev_cfg9, ev_cfgE9] at call
  clear hs4
  go_wp2_with fail
  refine call.mono ?_
  clear call bx4
  rintro e w5 ⟨p5, n5, c5, rfl, hl, hb⟩
  have h5 : Below wB.heap.size wB w5 := h4.trans (hb.mono h4.size)
  have hz5 : w4.heap.size ≤ w5.heap.size := hb.size
  have g25 : Below w2.heap.size w2 w5 := g24.trans (hb.mono g24.size)
  clear hb
  have hn5 : n5 = 2 := hl.len.symm
  subst hn5
  have H5 := Lib.hid hl
  clear hl
  have bx5 := own_cells (HO.out.below h5 (by omega))
  have hs5 := HS.out.keep (Nat.le_refl _) (Nat.le_refl _) (Agree.of_below h5 (by omega))
  have call := config_any (n := 10) hs5 (by omega) (i64_small (by omega))
  rw [ev_cfgE10] at call
  clear hs5
  go_wp2_with fail
  refine call.mono ?_
  clear call bx5
  rintro e w6 ⟨p6, n6, c6, rfl, hl, hb⟩
  have h6 : Below wB.heap.size wB w6 := h5.trans (hb.mono h5.size)
  have hz6 : w5.heap.size ≤ w6.heap.size := hb.size
  have g26 : Below w2.heap.size w2 w6 := g25.trans (hb.mono g25.size)
  have g56 : Below w5.heap.size w5 w6 := (Below.refl _ _).trans (hb.mono (Nat.le_refl _))
  clear hb
  clear hl
  have bx6 := own_cells (HO.out.below h6 (by omega))
  have hs6 := HS.out.keep (Nat.le_refl _) (Nat.le_refl _) (Agree.of_below h6 (by omega))
  have hA : Below w6.heap.size w6 (w6.alloc (.cells #[.int .i64 2, .int .i64 0] 3)) := (Below.refl _ _).alloc (Nat.le_refl _) _
  have hI := ints_new w6 3 [2, 0] (by decide) (fun x hx => by simp at hx; rcases hx with rfl | rfl <;> exact i64_small (by omega))
  have call := which_any (item := 0) (plant := 0) (day := 7) (hs6.keep (Nat.le_refl _) (Nat.le_refl _) (Agree.of_below hA (by omega))) hI (by simp; omega) (by simp) (by simp [sampleS]) (i64_small (by omega)) (i64_small (by omega)) (i64_small (by omega))
  rw [ev_which, ev_whichE] at call
  clear hs6 hI
  go_wp2_with fail
  refine call.mono ?_
  clear call bx6
  rintro e w7 ⟨p7, n7, c7, rfl, hl, hb⟩
  have h7 : Below wB.heap.size wB w7 := h6.trans ((hA.trans (hb.mono (by simp))).mono h6.size)
  have hz7 : w6.heap.size ≤ w7.heap.size := Nat.le_trans hA.size hb.size
  have g27 : Below w2.heap.size w2 w7 := g26.trans ((hA.trans (hb.mono (by simp))).mono g26.size)
  have g57 : Below w5.heap.size w5 w7 := g56.trans ((hA.trans (hb.mono (by simp))).mono g56.size)
  clear hb hA
  have hn7 : n7 = 1 := hl.len.symm
  subst hn7
  have H7 := Lib.hid hl
  clear hl
  have bx7 := own_cells (HO.out.below h7 (by omega))
  have hs7 := HS.out.keep (Nat.le_refl _) (Nat.le_refl _) (Agree.of_below h7 (by omega))
  have call := hole_any hs7 (by omega) (by simp [sampleS])
  rw [ev_hole, ev_allE] at call
  clear hs7
  go_wp2_with fail
  refine call.mono ?_
  clear call bx7
  rintro e w8 ⟨v, rfl, ⟨p8, n8, c8, rfl, hl, j1, j2, j3, j4⟩, hb⟩
  have h8 : Below wB.heap.size wB w8 := h7.trans (hb.mono h7.size)
  have hz8 : w7.heap.size ≤ w8.heap.size := hb.size
  have g28 : Below w2.heap.size w2 w8 := g27.trans (hb.mono g27.size)
  have g58 : Below w5.heap.size w5 w8 := g57.trans (hb.mono g57.size)
  have g78 : Below w7.heap.size w7 w8 := (Below.refl _ _).trans (hb.mono (Nat.le_refl _))
  clear hb
  clear hl
  have ho8 := HO.out.below h8 (by omega)
  have bx8 := own_cells ho8
  have fz8 := ho8.frozen
  have HO8 := Lib.hid ho8
  clear ho8
  have hw8 : w1.heap.size < w8.heap.size := by omega
  generalize (holeV sampleS).item = hv1 at j1 ⊢
  generalize (holeV sampleS).plant = hv2 at j2 ⊢
  generalize (holeV sampleS).day = hv3 at j3 ⊢
  generalize (holeV sampleS).many = hv4 at j4 ⊢
  go_upto_region 10 with fail
  clear bx8 fz8
  obtain ⟨wS, hwS⟩ : ∃ wS, wS = w8.setCell ⟨w1.heap.size, 6, none⟩ (.slice rp 3 rc) := ⟨_, rfl⟩
  rw [← hwS]
  have hag : ∀ {lo hi : Nat} {W : World}, Agree lo hi W w8 → w1.heap.size < lo ∨ hi ≤ w1.heap.size → Agree lo hi W wS := fun h hd => by rw [hwS]; exact h.setCell (p := ⟨w1.heap.size, 6, none⟩) hd _
  have hzS : wS.heap.size = w8.heap.size := by rw [hwS]; simp
  have HOS : Hid (Own wS w1.heap.size 31 [.slice up un uc, .slice ip iN ic, .slice pp pn pc, .slice mp mn mc, .slice op on oc, .slice fp fn fc, .slice rp 3 rc, .slice sp sn sc]) := by show Own _ _ _ _; rw [hwS]; exact HO8.out.set 6 (.slice rp 3 rc)
  have HSS : Hid (RSrc w.heap.size w1.heap.size wS ⟨⟨up, un, uc⟩, ⟨ip, iN, ic⟩, ⟨pp, pn, pc⟩, ⟨mp, mn, mc⟩, ⟨op, on, oc⟩, ⟨fp, fn, fc⟩, ⟨rp, 3, rc⟩, ⟨sp, sn, sc⟩⟩ sample3S) := by
    have h := HS.out.keep (Nat.le_refl _) (Nat.le_refl _) (hag (Agree.of_below h8 (by omega)) (.inr (Nat.le_refl _)))
    exact ⟨h.op, h.fo, SliceOf.take h.re (show 3 ≤ 4 by omega), h.it, h.pl⟩
  have hbS : Below w.heap.size w wS := by
    rw [hwS]
    exact (((hb1.trans (hBB.mono hz1)).trans (h8.mono (by omega))).setCell (p := ⟨w1.heap.size, 6, none⟩) hz1 _)
  have h28 : Below w2.heap.size w2 w8 := g28
  have HALL2 := Lib.hid (HALL.out.keep (RSlice.keeps RInt.keeps 1) (Nat.le_refl _) (Nat.le_refl _) (hag (Agree.of_below h28 (Nat.le_refl _)) (.inl (by omega))))
  have H52 := Lib.hid (H5.out.keep RInt.keeps (Nat.le_refl _) (Nat.le_refl _) (hag (Agree.of_below g58 (Nat.le_refl _)) (.inl (by omega))))
  have H72 := Lib.hid (H7.out.keep RInt.keeps (Nat.le_refl _) (Nat.le_refl _) (hag (Agree.of_below g78 (Nat.le_refl _)) (.inl (by simp; omega))))
  obtain ⟨w9, hw9⟩ : ∃ w9, w9 = wS.alloc (.cells #[.int .i64 hv1, .int .i64 hv2, .int .i64 hv3, .slice p8 n8 c8, .int .i64 hv4] 49) := ⟨_, rfl⟩
  rw [← hw9]
  have h9 : Below wS.heap.size wS w9 := by rw [hw9]; exact (Below.refl _ _).alloc (Nat.le_refl _) _
  have hz9 : wS.heap.size ≤ w9.heap.size := h9.size
  clear hw9 hwS hag HALL H5 H7 HO8 HO HS

  have bx9 := own_cells (HOS.out.below h9 (by omega))
  have hs9 := HSS.out.keep (Nat.le_refl _) (Nat.le_refl _) (Agree.of_below h9 (by omega))
  have call := hole_any hs9 (by omega) (by simp [sample3S, sampleS])
  rw [ev_holeV3, ev_hole3, ev_allE3] at call
  clear hs9
  go_wp2_with fail
  refine call.mono ?_
  clear call bx9
  rintro e w10 ⟨v, rfl, ⟨p10, n10, c10, rfl, hl, k1, k2, k3, k4⟩, hb⟩
  have h10 : Below wS.heap.size wS w10 := h9.trans (hb.mono h9.size)
  have hz10 : w9.heap.size ≤ w10.heap.size := hb.size
  clear hb
  have hn10 : n10 = 2 := hl.len.symm
  subst hn10
  go_upto_region 11 with fail
  obtain ⟨w11, hw11⟩ : ∃ w11, w11 = w10.alloc (.cells #[.int .i64 0, .int .i64 0, .int .i64 7, .slice p10 2 c10, .int .i64 0] 49) := ⟨_, rfl⟩
  rw [← hw11]
  have hA : Below w10.heap.size w10 w11 := by rw [hw11]; exact (Below.refl _ _).alloc (Nat.le_refl _) _
  have HF0 := Lib.hid (hl.keep RInt.keeps (Nat.le_refl _) (Nat.le_refl _) (Agree.of_below hA (Nat.le_refl _)))
  have HOF : Hid (Own w11 w10.heap.size 49 [.int .i64 0, .int .i64 0, .int .i64 7, .slice p10 2 c10, .int .i64 0]) := by show Own _ _ _ _; rw [hw11]; exact Own.new w10 _ _
  have hz11 : w11.heap.size = w10.heap.size + 1 := by rw [hw11]; simp
  have h11 : Below wS.heap.size wS w11 := h10.trans (hA.mono h10.size)
  clear hl k1 k2 k3 k4 hw11 hA
  have call := all_any (rsrc_nil 0 0 w11) (Nat.zero_le _)
  rw [ev_allEmpty, ev_allEEmpty] at call
  go_wp2_with fail
  refine call.mono ?_
  clear call
  rintro e w12 ⟨p12, n12, c12, rfl, hl, hb⟩
  have h12 : Below wS.heap.size wS w12 := h11.trans (hb.mono h11.size)
  have hz12 : w11.heap.size ≤ w12.heap.size := hb.size
  have g1112 : Below w11.heap.size w11 w12 := (Below.refl _ _).trans (hb.mono (Nat.le_refl _))
  clear hb
  have hn12 : n12 = 1 := hl.len.symm
  subst hn12
  have HZ := Lib.hid hl
  clear hl
  have call := codeC_any (rsrc_nil 0 0 w12) (slice_nil RInt 1 0 0 w12) (Nat.zero_le _) (Nat.zero_le _)
  rw [ev_codeNEmpty, ev_codeEmpty] at call
  go_wp2_with fail
  refine call.mono ?_
  clear call
  rintro e w13 ⟨rfl, hb⟩
  have h13 : Below wS.heap.size wS w13 := h12.trans (hb.mono h12.size)
  have hz13 : w12.heap.size ≤ w13.heap.size := hb.size
  have g1113 : Below w11.heap.size w11 w13 := g1112.trans (hb.mono g1112.size)
  have g1213 : Below w12.heap.size w12 w13 := (Below.refl _ _).trans (hb.mono (Nat.le_refl _))
  clear hb
  have call := config_any (n := 1) (rsrc_nil 0 0 w13) (Nat.zero_le _) (i64_small (by omega))
  rw [ev_cfgEmpty] at call
  go_wp2_with fail
  refine call.mono ?_
  clear call
  rintro e w14 ⟨p14, n14, c14, rfl, hl, hb⟩
  have h14 : Below wS.heap.size wS w14 := h13.trans (hb.mono h13.size)
  have hz14 : w13.heap.size ≤ w14.heap.size := hb.size
  have g1114 : Below w11.heap.size w11 w14 := g1113.trans (hb.mono g1113.size)
  have g1214 : Below w12.heap.size w12 w14 := g1213.trans (hb.mono g1213.size)
  clear hb
  clear hl
  have call := hole_any (rsrc_nil 0 0 w14) (Nat.zero_le _) (by simp [emptySrc])
  rw [ev_holeEmpty, ev_allEEmpty] at call
  go_wp2_with fail
  refine call.mono ?_
  clear call
  rintro e w15 ⟨v, rfl, ⟨p15, n15, c15, rfl, hl, k1, k2, k3, k4⟩, hb⟩
  have h15 : Below wS.heap.size wS w15 := h14.trans (hb.mono h14.size)
  have hz15 : w14.heap.size ≤ w15.heap.size := hb.size
  have g1115 : Below w11.heap.size w11 w15 := g1114.trans (hb.mono g1114.size)
  have g1215 : Below w12.heap.size w12 w15 := g1214.trans (hb.mono g1214.size)
  clear hb
  clear hl
  generalize (holeV emptySrc).item = hx1 at k1 ⊢
  generalize (holeV emptySrc).plant = hx2 at k2 ⊢
  generalize (holeV emptySrc).day = hx3 at k3 ⊢
  generalize (holeV emptySrc).many = hx4 at k4 ⊢
  go_upto_region 15 with fail
  obtain ⟨w16, hw16⟩ : ∃ w16, w16 = w15.alloc (.cells #[.int .i64 hx1, .int .i64 hx2, .int .i64 hx3, .slice p15 n15 c15, .int .i64 hx4] 49) := ⟨_, rfl⟩
  rw [← hw16]
  have hA : Below w15.heap.size w15 w16 := by rw [hw16]; exact (Below.refl _ _).alloc (Nat.le_refl _) _
  have hz16 : w15.heap.size ≤ w16.heap.size := hA.size
  have h16 : Below wS.heap.size wS w16 := h15.trans (hA.mono h15.size)
  have g1116 := g1115.trans (hA.mono g1115.size)
  have g1216 := g1215.trans (hA.mono g1215.size)
  clear hw16 hA k1 k2 k3 k4
  have hA : Below w16.heap.size w16 (w16.alloc (.cells #[.string ⟨#[120]⟩, .slice none 0 0] 66)) := (Below.refl _ _).alloc (Nat.le_refl _) _
  have hOne : RSrc w16.heap.size (w16.heap.size + 1) (w16.alloc (.cells #[.string ⟨#[120]⟩, .slice none 0 0] 66)) (⟨⟨none, 0, 0⟩, ⟨none, 0, 0⟩, ⟨none, 0, 0⟩, ⟨none, 0, 0⟩, ⟨some ⟨w16.heap.size, 0, none⟩, 1, 1⟩, ⟨none, 0, 0⟩, ⟨none, 0, 0⟩, ⟨none, 0, 0⟩⟩ : SrcV) oneSrc :=
    ⟨slice_alloc (R := ROpt) (sz := 2) [0] [[.string ⟨#[120]⟩, .slice none 0 0]] rfl (by simp) (by simp) (Nat.le_refl _) (fun i x vs hx hv => by
      match i with
      | 0 => simp at hx hv; subst hx hv; exact ⟨_, _, _, rfl, by omega, by omega⟩
      | i + 1 => simp at hx), slice_nil _ _ _ _ _, slice_nil _ _ _ _ _, ⟨rfl, by simp [oneSrc]⟩, ⟨rfl, by simp [oneSrc]⟩⟩
  have call := all_any hOne (by simp)
  rw [ev_allEOne] at call
  clear hOne
  go_wp2_with fail
  refine call.mono ?_
  clear call
  rintro e w17 ⟨p17, n17, c17, rfl, hl, hb⟩
  have hT := hA.trans (hb.mono (by simp))
  have h17 := h16.trans (hT.mono h16.size)
  have g1117 := g1116.trans (hT.mono g1116.size)
  have g1217 := g1216.trans (hT.mono g1216.size)
  have hz17 : w16.heap.size ≤ w17.heap.size := hT.size
  clear hl hb hA hT
  obtain ⟨x, b, off, p', n', c', hx, hpe, hlo, hbh, c0, hxs⟩ := slice_ints (HALL2.out.keep (RSlice.keeps RInt.keeps 1) (Nat.le_refl _) (Nat.le_refl _) (Agree.of_below h17 (by omega))) (show 3 < 7 by omega)
  simp at hx
  subst hx hpe
  have hA : Below w17.heap.size w17 (w17.alloc (.cells #[.int .i64 1, .int .i64 0] 3)) := (Below.refl _ _).alloc (Nat.le_refl _) _
  have hI := ints_new w17 3 [1, 0] (by decide) (fun x hx => by simp at hx; rcases hx with rfl | rfl <;> exact i64_small (by omega))
  have call := sameInts_any (hxs.keep RInt.keeps (Nat.le_refl _) (Nat.le_refl _) (Agree.of_below hA (by omega))) hI (by simp; omega) (by simp)
  rw [show decide (([1, 0] : List Int) = [1, 0]) = true from rfl] at call
  clear hxs hI
  go_wp2_with fail
  refine call.mono ?_
  clear call
  rintro e w18 ⟨rfl, m, hw18⟩
  have hb : Below w17.heap.size w17 w18 := by rw [hw18]; exact below_drewN hA _
  clear hw18 hA
  have h18 := h17.trans (hb.mono h17.size)
  have g1118 := g1117.trans (hb.mono g1117.size)
  have g1218 := g1217.trans (hb.mono g1217.size)
  have hz18 : w17.heap.size ≤ w18.heap.size := hb.size
  clear hb
  have hA : Below w18.heap.size w18 (w18.alloc (.cells #[.int .i64 2, .int .i64 1] 3)) := (Below.refl _ _).alloc (Nat.le_refl _) _
  have hI := ints_new w18 3 [2, 1] (by decide) (fun x hx => by simp at hx; rcases hx with rfl | rfl <;> exact i64_small (by omega))
  have call := sameInts_any (H52.out.keep RInt.keeps (Nat.le_refl _) (Nat.le_refl _) (Agree.of_below (h18.trans (hA.mono h18.size)) (by omega))) hI (by simp; omega) (by simp)
  rw [show decide (([2, 1] : List Int) = [2, 1]) = true from rfl] at call
  clear hI
  go_wp2_with fail
  refine call.mono ?_
  clear call
  rintro e w19 ⟨rfl, m, hw⟩
  have hb : Below w18.heap.size w18 w19 := by rw [hw]; exact below_drewN hA _
  clear hw hA
  have h19 := h18.trans (hb.mono h18.size)
  have g1119 := g1118.trans (hb.mono g1118.size)
  have g1219 := g1218.trans (hb.mono g1218.size)
  have hz19 : w18.heap.size ≤ w19.heap.size := hb.size
  clear hb
  have hA : Below w19.heap.size w19 (w19.alloc (.cells #[.int .i64 3] 3)) := (Below.refl _ _).alloc (Nat.le_refl _) _
  have hI := ints_new w19 3 [3] (by decide) (fun x hx => by simp at hx; rcases hx with rfl <;> exact i64_small (by omega))
  have call := sameInts_any (H72.out.keep RInt.keeps (Nat.le_refl _) (Nat.le_refl _) (Agree.of_below (h19.trans (hA.mono h19.size)) (by omega))) hI (by simp; omega) (by simp)
  rw [show decide (([3] : List Int) = [3]) = true from rfl] at call
  clear hI
  go_wp2_with fail
  refine call.mono ?_
  clear call
  rintro e w20 ⟨rfl, m, hw⟩
  have hb : Below w19.heap.size w19 w20 := by rw [hw]; exact below_drewN hA _
  clear hw hA
  have h20 := h19.trans (hb.mono h19.size)
  have g1120 := g1119.trans (hb.mono g1119.size)
  have g1220 := g1219.trans (hb.mono g1219.size)
  have hz20 : w19.heap.size ≤ w20.heap.size := hb.size
  clear hb
  have hA : Below w20.heap.size w20 (w20.alloc (.cells #[.int .i64 2, .int .i64 0] 3)) := (Below.refl _ _).alloc (Nat.le_refl _) _
  have hI := ints_new w20 3 [2, 0] (by decide) (fun x hx => by simp at hx; rcases hx with rfl | rfl <;> exact i64_small (by omega))
  have bf := own_cells (HOF.out.below g1120 (by omega))
  have call := sameHole_any (a := ⟨0, 0, 7, [2, 0], 0⟩) (b := ⟨0, 0, 7, [2, 0], 0⟩) (u := .agg #[.int .i64 0, .int .i64 0, .int .i64 7, .slice p10 2 c10, .int .i64 0]) (v := .agg #[.int .i64 0, .int .i64 0, .int .i64 7, .slice (some ⟨w20.heap.size, 0, none⟩) 2 2, .int .i64 0])
    ⟨p10, 2, c10, rfl, HF0.out.keep RInt.keeps (Nat.le_refl _) (Nat.le_refl _) (Agree.of_below (g1120.trans (hA.mono g1120.size)) (by omega)), i64_small (by decide), i64_small (by decide), i64_small (by decide), i64_small (by decide)⟩
    ⟨_, 2, 2, rfl, hI, i64_small (by decide), i64_small (by decide), i64_small (by decide), i64_small (by decide)⟩ (by simp; omega) (by simp)
  rw [show sameHoleB ⟨0, 0, 7, [2, 0], 0⟩ ⟨0, 0, 7, [2, 0], 0⟩ = true from rfl] at call
  clear hI
  obtain ⟨y, by', oy, py, ny, cy, hy, hpy, _, hby, cy0, hys⟩ := slice_ints (HZ.out.keep (RSlice.keeps RInt.keeps 1) (Nat.le_refl _) (Nat.le_refl _) (Agree.of_below g1220 (Nat.le_refl _))) (show 0 < 1 by omega)
  simp at hy
  subst hy hpy
  simp only [Nat.add_zero] at cy0
  have hny : ny = 0 := hys.len.symm
  subst hny
  go_wp2_with fail
  refine call.mono ?_
  clear call bf
  rintro e w21 ⟨rfl, hb'⟩
  have hb := hA.trans (hb'.mono (by simp))
  have cy1 := (hb.cell (p := ⟨by', oy, none⟩) (by show by' < _; omega)).trans cy0
  clear hb' hA cy0 hys
  have h21 := h20.trans (hb.mono h20.size)
  have g1121 := g1120.trans (hb.mono g1120.size)
  have g1221 := g1220.trans (hb.mono g1220.size)
  have hz21 : w20.heap.size ≤ w21.heap.size := hb.size
  clear hb
  go_wp2_with fail
  refine (sample_any _).mono ?_
  rintro e w22 ⟨s22, rfl, hs', hb⟩
  have h22 := h21.trans (hb.mono h21.size)
  have g1122 := g1121.trans (hb.mono g1121.size)
  have g1222 := g1221.trans (hb.mono g1221.size)
  have hz22 : w21.heap.size ≤ w22.heap.size := hb.size
  clear hb
  have hA : Below w22.heap.size w22 (w22.alloc (.cells #[.int .i64 0, .int .i64 2] 3)) := (Below.refl _ _).alloc (Nat.le_refl _) _
  have hI := ints_new w22 3 [0, 2] (by decide) (fun x hx => by simp at hx; rcases hx with rfl | rfl <;> exact i64_small (by omega))
  have call := validC_any (hs'.keep (Nat.le_refl _) (Nat.le_refl _) (Agree.of_below hA (Nat.le_refl _))) hI (by simp) (by simp)
  rw [ev_valid1] at call
  clear hI hs'
  obtain ⟨⟨aup, aun, auc⟩, ⟨aip, aiN, aic⟩, ⟨app, apn, apc⟩, ⟨amp, amn, amc⟩, ⟨aop, aon, aoc⟩, ⟨afp, afn, afc⟩, ⟨arp, arn, arc⟩, ⟨asp, asn, asc⟩⟩ := s22
  go_wp2_with fail
  refine call.mono ?_
  clear call
  rintro e w23 ⟨rfl, hb'⟩
  have hb := hA.trans (hb'.mono (by simp))
  clear hb' hA
  have h23 := h22.trans (hb.mono h22.size)
  have g1123 := g1122.trans (hb.mono g1122.size)
  have g1223 := g1222.trans (hb.mono g1222.size)
  have hz23 : w22.heap.size ≤ w23.heap.size := hb.size
  clear hb
  go_wp2_with fail
  refine (sample_any _).mono ?_
  rintro e w24 ⟨s24, rfl, hs', hb⟩
  have h24 := h23.trans (hb.mono h23.size)
  have g1124 := g1123.trans (hb.mono g1123.size)
  have g1224 := g1223.trans (hb.mono g1223.size)
  have hz24 : w23.heap.size ≤ w24.heap.size := hb.size
  clear hb
  have hA : Below w24.heap.size w24 (w24.alloc (.cells #[.int .i64 3, .int .i64 0] 3)) := (Below.refl _ _).alloc (Nat.le_refl _) _
  have hI := ints_new w24 3 [3, 0] (by decide) (fun x hx => by simp at hx; rcases hx with rfl | rfl <;> exact i64_small (by omega))
  have call := validC_any (hs'.keep (Nat.le_refl _) (Nat.le_refl _) (Agree.of_below hA (Nat.le_refl _))) hI (by simp) (by simp)
  rw [ev_valid2] at call
  clear hI hs'
  obtain ⟨⟨aup, aun, auc⟩, ⟨aip, aiN, aic⟩, ⟨app, apn, apc⟩, ⟨amp, amn, amc⟩, ⟨aop, aon, aoc⟩, ⟨afp, afn, afc⟩, ⟨arp, arn, arc⟩, ⟨asp, asn, asc⟩⟩ := s24
  go_wp2_with fail
  refine call.mono ?_
  clear call
  rintro e w25 ⟨rfl, hb'⟩
  have hb := hA.trans (hb'.mono (by simp))
  clear hb' hA
  have h25 := h24.trans (hb.mono h24.size)
  have g1125 := g1124.trans (hb.mono g1124.size)
  have g1225 := g1224.trans (hb.mono g1224.size)
  have hz25 : w24.heap.size ≤ w25.heap.size := hb.size
  clear hb
  go_wp2_with fail
  go_ret
  exact ⟨rfl, hbS.trans (h25.mono (by omega))⟩
end Go.Proofs.Ytpbajggbinljiaa
