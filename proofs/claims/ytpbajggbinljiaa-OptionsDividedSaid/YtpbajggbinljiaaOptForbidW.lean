/-
  backflushlaw13.OptionsForbid, walked: it returns true.
-/
import Derived.Test.YtpbajggbinljiaaOptCodesW
import Derived.Test.YtpbajggbinljiaaOptLawB
import Derived.Test.YtpbajggbinljiaaMany
namespace Go.Proofs.Ytpbajggbinljiaa
set_option linter.unusedVariables false
set_option linter.unusedSimpArgs false
set_option linter.unnecessarySimpa false
set_option linter.unusedSectionVars false
open Go.RowKit Go.Shelf
attribute [local go_sem] cell_re frozen_re size_re

theorem RCnds.one : OneCells RCnds := by
  rintro lo hi w x vs ⟨p, n, c, rfl, _⟩ u hu
  rw [List.mem_singleton.1 hu]; rfl

theorem few_rcp {S : Src} (h : fewB S = true) : S.recipes.length ≤ 8 := by
  unfold fewB at h
  simp only [Bool.and_eq_true, decide_eq_true_eq] at h
  omega

set_option maxRecDepth 100000 in
set_option maxHeartbeats 4000000 in
theorem forbid_any {lo hi lo2 hi2 : Nat} {s : SrcV} {S : Src} {q : Option Addr} {m cap2 : Nat} {l : List Cnd} {w : World}
    (hs : RSrc lo hi w s S) (hc : SliceOf RCnd 4 lo2 hi2 w q m cap2 l) (hhi : hi ≤ w.heap.size) (hhi2 : hi2 ≤ w.heap.size) :
    Calls Try.prog 5 #[.agg s.cells.toArray, .slice q m cap2] w fun e w' => e = .returned (.bool true) ∧ Below w.heap.size w w' := by
  have hmm := hc.nle
  have hfn := hs.fo.nle
  have HFL := Lib.hid hs.fo.len
  obtain ⟨⟨up, un, uc⟩, ⟨ip, iN, ic⟩, ⟨pp, pn, pc⟩, ⟨mp, mn, mc⟩, ⟨op, on, oc⟩, ⟨fp, fn, fc⟩, ⟨rp, rn, rc⟩, ⟨sp, sn, sc⟩⟩ := s
  dsimp only at hfn HFL
  obtain ⟨wB, hwB⟩ : ∃ wB, wB = w.alloc (.cells #[.slice up un uc, .slice ip iN ic, .slice pp pn pc, .slice mp mn mc, .slice op on oc, .slice fp fn fc, .slice rp rn rc, .slice sp sn sc] 31) := ⟨_, rfl⟩
  have hBB : Below w.heap.size w wB := by rw [hwB]; exact (Below.refl _ _).alloc (Nat.le_refl _) _
  have hzB : wB.heap.size = w.heap.size + 1 := by rw [hwB]; simp
  have hBs := hBB.size
  have hB1 : w.heap.size < wB.heap.size := by omega
  have HO : Hid (Own wB w.heap.size 31 [.slice up un uc, .slice ip iN ic, .slice pp pn pc, .slice mp mn mc, .slice op on oc, .slice fp fn fc, .slice rp rn rc, .slice sp sn sc]) := by show Own _ _ _ _; rw [hwB]; exact Own.new w _ _
  have HS := Lib.hid (hs.keep (Nat.le_refl _) (Nat.le_refl _) (Agree.of_below hBB hhi))
  have HC := Lib.hid (hc.keep RCnd.keeps (Nat.le_refl _) (Nat.le_refl _) (Agree.of_below hBB hhi2))
  clear hs hc
  go_enter Try.func5, Try.ntmps5
  go_wp2_with fail
  rw [← hwB]
  clear hwB
  refine (sane_any _).mono ?_
  rintro e w1 ⟨rfl, hb⟩
  have h1 : Below wB.heap.size wB w1 := hb
  have hz1 := hb.size
  clear hb
  have bx1 := own_cells (HO.out.below h1 (by omega))
  have call := few_any (HS.out.keep (Nat.le_refl _) (Nat.le_refl _) (Agree.of_below h1 (by omega))) (by omega)
  go_wp2_with fail
  refine call.mono ?_
  clear call bx1
  rintro e w2 ⟨rfl, hb⟩
  have h2 : Below wB.heap.size wB w2 := h1.trans (hb.mono h1.size)
  have hz2 : w1.heap.size ≤ w2.heap.size := hb.size
  clear hb
  have hwB2 : w.heap.size < w2.heap.size := by omega
  cases hf : fewB S with
  | false =>
    go_wp2_with fail
    go_ret
    exact ⟨rfl, hBB.trans (h2.mono (by omega))⟩
  | true =>
    by_cases hm6 : 6 < m
    · have d1 : decide ((6 : Int) < (m : Int)) = true := by simp; omega
      go_wp2_with fail
      go_ret
      exact ⟨rfl, hBB.trans (h2.mono (by omega))⟩
    · have d1 : decide ((6 : Int) < (m : Int)) = false := by simp; omega
      have bx2 := own_cells (HO.out.below h2 (by omega))
      have fz2 := (HO.out.below h2 (by omega)).frozen
      by_cases hf6 : 6 ≤ fn
      · have d2 : decide ((6 : Int) ≤ (fn : Int)) = true := by simp; omega
        have hbf := hBB.trans (h2.mono (by omega))
        go_wp2_with fail
        go_ret
        exact ⟨rfl, hbf⟩
      · have d2 : decide ((6 : Int) ≤ (fn : Int)) = false := by simp; omega
        go_upto_region 6 with fail
        obtain ⟨w3, hw3⟩ : ∃ w3, w3 = w2.alloc (.cells #[.slice up un uc, .slice ip iN ic, .slice pp pn pc, .slice mp mn mc, .slice op on oc, .slice fp fn fc, .slice rp rn rc, .slice sp sn sc] 31) := ⟨_, rfl⟩
        have g3 : Below w2.heap.size w2 w3 := by rw [hw3]; exact (Below.refl _ _).alloc (Nat.le_refl _) _
        have hz3 : w2.heap.size < w3.heap.size := by rw [hw3]; simp
        have HX : Hid (Own w3 w2.heap.size 31 [.slice up un uc, .slice ip iN ic, .slice pp pn pc, .slice mp mn mc, .slice op on oc, .slice fp fn fc, .slice rp rn rc, .slice sp sn sc]) := by show Own _ _ _ _; rw [hw3]; exact Own.new w2 _ _
        rw [← hw3]
        clear hw3 bx2 fz2
        have h3 := h2.trans (g3.mono (by omega))
        have bx3 := own_cells (HO.out.below h3 (by omega))
        obtain ⟨w4, hw4⟩ : ∃ w4, w4 = w3.alloc (.cells #[] 47) := ⟨_, rfl⟩
        have HW4 := Lib.hid hw4
        have g4 : Below w3.heap.size w3 w4 := by rw [hw4]; exact (Below.refl _ _).alloc (Nat.le_refl _) _
        have h4 := h3.trans (g4.mono (by omega))
        have hz4 : w3.heap.size < w4.heap.size := by rw [hw4]; simp
        have hcol0 : Coll RCnds 1 47 0 (fun b => b = w2.heap.size) w4 (.slice (some ⟨w3.heap.size, 0, none⟩) 0 0) [] := by rw [hw4]; exact Coll.empty RCnds (heap_alloc_new _ _) (Nat.zero_le _) (fun (h : _ = _) => by omega) (by unfold maxLen; omega) (by simp)
        clear hw4
        have hfo4 := HS.out.fo.keep RCnds.keeps (Nat.le_refl _) (Nat.le_refl _) (Agree.of_below h4 (by omega))
        dsimp only at hfo4
        obtain ⟨v5, w5, hr5, hcol5, hgr5, hown5⟩ := run_append_many (P := Try.prog) RCnds.keeps RCnds.one hcol0 27 27 (.slice none 0 0) 24 Try.underlying27 (by kernel_rfl) rfl (by omega) hfo4 (Nat.zero_le _) (by omega) (fun g hg => by
          rcases hg with hg | hg
          · simp [Value.ownBlock] at hg; omega
          · have : g = w2.heap.size := hg
            omega) (fun (h : _ = _) => by omega) (by simp only [List.length_nil]; omega) (by simp only [List.length_nil]; unfold maxLen; omega) (Nat.zero_le _)
        rw [List.nil_append] at hcol5
        have g5 : Below w3.heap.size w3 w5 := (g4.grown hgr5 (by omega) (fun k e => by simp [Value.ownBlock] at e; omega))
        have h5 := h3.trans (g5.mono (by omega))
        have hz5 := g5.size
        obtain ⟨w6, hw6⟩ : ∃ w6, w6 = w5.alloc (.cells #[.slice q m cap2] 47) := ⟨_, rfl⟩
        have HW6 := Lib.hid hw6
        have g6 : Below w5.heap.size w5 w6 := by rw [hw6]; exact (Below.refl _ _).alloc (Nat.le_refl _) _
        have h6 := h5.trans (g6.mono (by omega))
        have hz6 : w5.heap.size < w6.heap.size := by rw [hw6]; simp
        have hcol6 := hcol5.below RCnds.keeps g6
        
        have hc6 := HC.out.keep RCnd.keeps (Nat.le_refl _) (Nat.le_refl _) (Agree.of_below h6 (by omega))
        have hown6 : ∀ g, v5.ownBlock = some g → w3.heap.size ≤ g := by
          intro g hg
          rcases hown5 with e | e
          · rw [e] at hg; simp [Value.ownBlock] at hg; omega
          · rw [e] at hg; injection hg with hg; omega
        obtain ⟨v7, w7, hr7, hcol7, hgr7⟩ := run_append_coll (P := Try.prog) RCnds.keeps hcol6 27 27 (.slice none 0 0) 24 Try.underlying27 (by kernel_rfl) rfl (by omega) ⟨w5.heap.size, 0, none⟩ 1 [.slice q m cap2] l lo2 hi2 ⟨q, m, cap2, rfl, hc6⟩ rfl (by
          intro j u hu
          rw [addr_add0, hw6]
          match j with
          | 0 => simp at hu; subst hu; simp
          | j + 1 => simp at hu) (fun u hu => by rw [List.mem_singleton.1 hu]; rfl) (Nat.zero_le _) (by omega) (fun g hg => by
          rcases hg with hg | hg
          · have := hown6 g hg; omega
          · have : g = w2.heap.size := hg
            omega) (fun (h : _ = _) => by omega) (by rw [HFL.out]; omega) (by rw [HFL.out]; unfold maxLen; omega) (Nat.zero_le _)
        have g7 : Below w3.heap.size w3 w7 := (g5.trans (g6.mono (by omega))).grown hgr7 (by omega) hown6
        obtain ⟨p7, c7, hv7, hsl7⟩ := hcol7.slice RCnds.keeps
        have hf7 : (S.forbids ++ [l]).length ≤ 6 := by have := HFL.out; simp; omega
        obtain ⟨n7, hn7⟩ : ∃ n7, (S.forbids ++ [l]).length = n7 := ⟨_, rfl⟩
        rw [hn7] at hv7
        subst hv7
        have HN7 := Lib.hid hn7
        have HCOL7 := Lib.hid hcol7
        clear hn7 hf7
        have HR5 := Lib.hid hr5
        have HR7 := Lib.hid hr7
        have hz7 := g7.size
        have h7 := h3.trans (g7.mono (by omega))
        have fz7 := (HX.out.below g7 (by omega)).frozen
        have bz7 := own_cells (HX.out.below g7 (by omega))
        clear hr5 hr7 hcol0 hcol5 hcol6 hcol7 hown5 hown6 hgr5 hgr7 hfo4 hc6 hw6 hsl7
        clear hzB
        have hw3s : w.heap.size < w3.heap.size := by omega
        have hw7s : w.heap.size < w7.heap.size := by omega
        have hw7t : w2.heap.size < w7.heap.size := by omega
        go_upto_region 7 with (first | (at_builtin; rw [← HW4.out]; refine wpList_append_eq rfl (.tmp 36) (.tmp 38) 27 27 rfl rfl rfl rfl HR5.out ?_) | (at_builtin; rw [← HW6.out]; refine wpList_append_eq rfl (.tmp 39) (.tmp 41) 27 27 rfl rfl rfl rfl HR7.out ?_))
        obtain ⟨w8, hw8⟩ : ∃ w8, w8 = w7.setCell ⟨w2.heap.size, 5, none⟩ (.slice p7 n7 c7) := ⟨_, rfl⟩
        have HX8 : Hid (Own w8 w2.heap.size 31 [.slice up un uc, .slice ip iN ic, .slice pp pn pc, .slice mp mn mc, .slice op on oc, .slice p7 n7 c7, .slice rp rn rc, .slice sp sn sc]) := by show Own _ _ _ _; rw [hw8]; exact (HX.out.below g7 (by omega)).set 5 _
        have h8 : Below wB.heap.size wB w8 := by rw [hw8]; exact h7.setCell (by show _ ≤ w2.heap.size; omega) _
        have hz8 : w7.heap.size ≤ w8.heap.size := by rw [hw8]; simp [World.setCell]
        have HR8 : Hid (RSrc 0 w8.heap.size w8 ⟨⟨up, un, uc⟩, ⟨ip, iN, ic⟩, ⟨pp, pn, pc⟩, ⟨mp, mn, mc⟩, ⟨op, on, oc⟩, ⟨p7, n7, c7⟩, ⟨rp, rn, rc⟩, ⟨sp, sn, sc⟩⟩ (addF S l)) := by
          have hk := HS.out.keep (Nat.zero_le lo) (show hi ≤ w8.heap.size by omega) (Agree.of_below h8 (by omega))
          have hcol8 : Coll RCnds 1 47 0 (fun b => b = w2.heap.size) w8 (.slice p7 n7 c7) (S.forbids ++ [l]) := HCOL7.out.keep RCnds.keeps (fun b _ _ hX => by rw [hw8]; exact Below.heap_setCell _ _ _ _ hX) hz8
          obtain ⟨p', c', ev, hsl8⟩ := hcol8.slice RCnds.keeps
          rw [HN7.out] at ev hsl8
          injection ev with e1 _ e2
          subst e1 e2
          exact ⟨hk.op, hsl8, hk.re, hk.it, hk.pl⟩
        rw [← hw8]
        have hfew := few_rcp hf
        have hzB8 : wB.heap.size ≤ w8.heap.size := h8.size
        have hn7s : w2.heap.size < w8.heap.size := by omega
        have hz80 : w.heap.size < w8.heap.size := by omega
        have bx8 := own_cells (HO.out.below h8 (by omega))
        have by8 := own_cells HX8.out
        have HC8 := Lib.hid (HC.out.keep RCnd.keeps (Nat.le_refl _) (Nat.le_refl _) (Agree.of_below h8 (by omega)))
        have HS8 := Lib.hid (HS.out.keep (Nat.le_refl _) (Nat.le_refl _) (Agree.of_below h8 (by omega)))
        have hhi8 : hi ≤ w8.heap.size := by omega
        have hhi28 : hi2 ≤ w8.heap.size := by omega
        clear HW4 HW6 HR5 HR7 HCOL7 HN7 fz7 bz7 bx3 hw8 h3 h4 h5 h6 h7 g3 g4 g5 g6 g7 HX hw3s hw7s hw7t hz7 hz6 hz5 hz4 hz3 hz1 h1
        have call := all_any HS8.out (by omega)
        go_wp2_with fail
        refine call.mono ?_
        clear call bx8 by8
        rintro e w9 ⟨p9, n9, c9, rfl, hall, hb9⟩
        have hz9 := hb9.size
        have HA := Lib.hid hall
        have bx9 := own_cells (HO.out.below (h8.trans (hb9.mono (by omega))) (by omega))
        have by9 := own_cells (HX8.out.below hb9 (by omega))
        have call := all_any (HR8.out.keep (Nat.le_refl _) (Nat.le_refl _) (Agree.of_below hb9 (Nat.le_refl _))) (by omega)
        rw [allE_addF] at call
        clear hall
        go_wp2_with fail
        refine call.mono ?_
        clear call bx9 by9
        rintro e w10 ⟨p10, n10, c10, rfl, hall, hb10⟩
        have hz10 := hb10.size
        have g10 := hb9.trans (hb10.mono hb9.size)
        have HB := Lib.hid hall
        have HA10 := Lib.hid (HA.out.keep (RSlice.keeps RInt.keeps 1) (Nat.le_refl _) (Nat.le_refl _) (Agree.of_below hb10 (Nat.le_refl _)))
        have bx10 := own_cells (HO.out.below (h8.trans (g10.mono (by omega))) (by omega))
        have by10 := own_cells (HX8.out.below g10 (by omega))
        have call := hole_any (HS8.out.keep (Nat.le_refl _) (Nat.le_refl _) (Agree.of_below g10 (by omega))) (by omega) (by omega)
        clear hall HA hb9 hb10
        go_wp2_with fail
        refine call.mono ?_
        clear call bx10 by10
        rintro e w11 ⟨v11, rfl, ⟨ph, nh, ch, rfl, hhole, i1, i2, i3, i4⟩, hb11⟩
        have hz11 := hb11.size
        have g11 := g10.trans (hb11.mono g10.size)
        have bx11 := own_cells (HO.out.below (h8.trans (g11.mono (by omega))) (by omega))
        have by11 := own_cells (HX8.out.below g11 (by omega))
        have hz110 : w.heap.size < w11.heap.size := by omega
        have hz112 : w2.heap.size < w11.heap.size := by omega
        clear hhole i1 i2 i3 i4
        go_wp2_with fail
        have hA11 : Below w11.heap.size w11 (w11.alloc (.cells #[.int .i64 (holeV S).item, .int .i64 (holeV S).plant, .int .i64 (holeV S).day, .slice ph nh ch, .int .i64 (holeV S).many] 49)) := (Below.refl _ _).alloc (Nat.le_refl _) _
        have call := hole_any (HR8.out.keep (Nat.le_refl _) (Nat.le_refl _) (Agree.of_below (g11.trans (hA11.mono (by omega))) (Nat.le_refl _))) (by simp; omega) (show (addF S l).recipes.length ≤ 1000 by show S.recipes.length ≤ 1000; omega)
        rw [allE_addF] at call
        refine call.mono ?_
        clear call bx11 by11
        rintro e w12 ⟨v12, rfl, ⟨pk, nk, ck, rfl, hhole, i1, i2, i3, i4⟩, hb12'⟩
        have hb12 := hA11.trans (hb12'.mono (by simp))
        have g12 := g11.trans (hb12.mono (by omega))
        have hz12 := hb12.size
        have HA12 := Lib.hid (HA10.out.keep (RSlice.keeps RInt.keeps 1) (Nat.le_refl _) (Nat.le_refl _) (Agree.of_below ((hb11.trans (hb12.mono hb11.size)).mono (by omega)) (Nat.le_refl _)))
        have HB12 := Lib.hid (HB.out.keep (RSlice.keeps RInt.keeps 1) (Nat.le_refl _) (Nat.le_refl _) (Agree.of_below (hb11.trans (hb12.mono hb11.size)) (Nat.le_refl _)))
        have HC12 := Lib.hid (HC8.out.keep RCnd.keeps (Nat.le_refl _) (Nat.le_refl _) (Agree.of_below g12 (by omega)))
        have h12 := h8.trans (g12.mono (by omega))
        clear hA11 hb12' hb11 hb12 hhole i1 i2 i3 i4 HA10 HB HC8
        cases hv : validB S with
        | false =>
          have ea : allE S = 130 := by rw [allE, hv]; rfl
          have hbf := hBB.trans (h12.mono (by omega))
          clear hv
          go_wp2_with fail
          go_ret
          exact ⟨rfl, hbf.alloc (by omega) _⟩
        | true =>
          have ea : allE S = 0 := by rw [allE, hv]; rfl
          have Hv := Lib.hid hv
          clear hv
          have hn9 := HA12.out.nle
          have hn10 := HB12.out.nle
          have HL9 := Lib.hid HA12.out.len
          have HL10 := Lib.hid HB12.out.len
          have hor := hole_addF_or S l
          go_upto_region 13 with fail
          obtain ⟨w13, hw13⟩ : ∃ w13, w13 = w12.alloc (.cells #[.int .i64 (holeV (addF S l)).item, .int .i64 (holeV (addF S l)).plant, .int .i64 (holeV (addF S l)).day, .slice pk nk ck, .int .i64 (holeV (addF S l)).many] 49) := ⟨_, rfl⟩
          have g13 : Below w12.heap.size w12 w13 := by rw [hw13]; exact (Below.refl _ _).alloc (Nat.le_refl _) _
          rw [← hw13]
          clear hw13
          have hz13 := g13.size
          have h13 := h12.trans (g13.mono (by omega))
          have HA13 := Lib.hid (HA12.out.keep (RSlice.keeps RInt.keeps 1) (Nat.le_refl _) (Nat.le_refl _) (Agree.of_below g13 (by omega)))
          have HB13 := Lib.hid (HB12.out.keep (RSlice.keeps RInt.keeps 1) (Nat.le_refl _) (Nat.le_refl _) (Agree.of_below g13 (by omega)))
          have HC13 := Lib.hid (HC12.out.keep RCnd.keeps (Nat.le_refl _) (Nat.le_refl _) (Agree.of_below g13 (by omega)))
          clear HA12 HB12 HC12 HX8 HR8
          go_wp2_with fail
          go_loopw [16, 87] (fun u i wr => ∃ k j : Nat, k ≤ n9 ∧ u = .int .i64 j ∧ i = .int .i64 k ∧ j ≤ k ∧ Hid ((((allL S).take k).filter (fun c => !holdB l c)).length = j) ∧ Below w13.heap.size w13 wr) (fun _ i _ => n9 - (intOf i).toNat)
          case atStart => exact ⟨0, 0, Nat.zero_le _, rfl, rfl, Nat.zero_le _, rfl, Below.refl _ _⟩
          case round =>
            obtain ⟨k, j, hk, rfl, rfl, hjk, HJ, hbr⟩ := hrel
            have hzr := hbr.size
            by_cases hlt : k < n9
            · obtain ⟨x, bl, ol, p', n', c', hxc, hpe, hlol, hbl, c0, hcs⟩ := slice_ints (HA13.out.keep (RSlice.keeps RInt.keeps 1) (Nat.le_refl _) (Nat.le_refl _) (Agree.of_below hbr (by omega))) hlt
              subst hpe
              have hbl2 : bl < wr.heap.size := by omega
              have Hxc := Lib.hid hxc
              have call := lawHolds_any (HC13.out.keep RCnd.keeps (Nat.le_refl _) (Nat.le_refl _) (Agree.of_below hbr (by omega))) hcs (by omega) (by omega)
              clear hxc
              cases hh : holdB l x with
              | true =>
                rw [hh] at call
                have HJ1 := Lib.hid ((congrArg List.length (filter_no (p := fun c => !holdB l c) Hxc.out (by simp [hh]))).trans HJ.out)
                clear hh
                go_wp2_with fail
                refine call.mono ?_
                clear call
                rintro e w14 ⟨rfl, hb14⟩
                have G14 := Lib.hid (hbr.trans (hb14.mono (by omega)))
                clear hb14
                go_wp2_with fail
                go_roundw
                case rel => exact ⟨k + 1, j, by omega, rfl, by go_num, by omega, HJ1, G14.out⟩
                case measure => simp [intOf]; omega
              | false =>
                rw [hh] at call
                have hg : (allL (addF S l))[j]? = some x := by
                  rw [allL_addF, ← HJ.out]; exact filter_get (p := fun c => !holdB l c) Hxc.out (by simp [hh])
                have HJ1 := Lib.hid ((filter_yes (p := fun c => !holdB l c) Hxc.out (by simp [hh])).trans (congrArg (· + 1) HJ.out))
                have hjn : j < n10 := by have h1 := lt_of_some hg; have h2 := HL10.out; omega
                have hjd : decide ((n10 : Int) ≤ (j : Int)) = false := by simp; omega
                have HG := Lib.hid hg
                clear hh hg
                have HX13 := Lib.hid hcs
                go_wp2_with fail
                refine call.mono ?_
                clear call
                rintro e w14 ⟨rfl, hb14⟩
                have hz14 := hb14.size
                have g14 := hbr.trans (hb14.mono (by omega))
                obtain ⟨y, b2, o2, p2, n2, c2, hy, hpe2, hlo2', hb2, d0, hds⟩ := slice_ints (HB13.out.keep (RSlice.keeps RInt.keeps 1) (Nat.le_refl _) (Nat.le_refl _) (Agree.of_below g14 (by omega))) hjn
                subst hpe2
                have hxy : y = x := by have := HG.out; rw [hy] at this; injection this
                subst hxy
                have hbl3 : b2 < w14.heap.size := by omega
                have call := sameInts_any hds (HX13.out.keep RInt.keeps (Nat.le_refl _) (Nat.le_refl _) (Agree.of_below hb14 (by omega))) (by omega) (by omega)
                rw [decide_eq_true rfl] at call
                have G14 := Lib.hid g14
                clear hy hb14 hcs g14
                go_wp2_with fail
                refine call.mono ?_
                clear call
                rintro e w15 ⟨rfl, m15, hd15⟩
                have G15 := Lib.hid (show Below w13.heap.size w13 w15 by rw [hd15]; exact below_drewN G14.out _)
                clear hd15
                go_wp2_with fail
                go_roundw
                case rel => exact ⟨k + 1, j + 1, by omega, by go_num, by go_num, by omega, HJ1, G15.out⟩
                case measure => simp [intOf]; omega
            · have hjn : j = n10 := by
                have h1 := HJ.out
                have h2 := HL10.out
                have h3 := HL9.out
                rw [List.take_of_length_le (by omega), ← allL_addF] at h1
                omega
              have hq : ((j : Int) == (n10 : Int)) = true := by simp; omega
              have hbf := hBB.trans ((h13.trans (hbr.mono (by omega))).mono (by omega))
              clear HJ hjn
              cases hS : (holeOf S).isSome with
              | true =>
                clear hor
                go_wp2_with fail
                go_ret
                exact ⟨rfl, hbf⟩
              | false =>
                have hT : (holeOf (addF S l)).isSome = false := by rw [hS] at hor; simpa using hor
                clear hor
                go_wp2_with fail
                go_ret
                exact ⟨rfl, hbf⟩
end Go.Proofs.Ytpbajggbinljiaa
