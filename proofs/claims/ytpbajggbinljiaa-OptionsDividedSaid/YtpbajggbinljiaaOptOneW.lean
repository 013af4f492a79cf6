/-
  backflushlaw13.OptionsOne, walked: it returns true.
-/
import Derived.Test.YtpbajggbinljiaaOptForbidW
import Derived.Test.YtpbajggbinljiaaOptLawC
import Derived.Test.YtpbajggbinljiaaMid
namespace Go.Proofs.Ytpbajggbinljiaa
set_option linter.unusedVariables false
set_option linter.unusedSimpArgs false
set_option linter.unnecessarySimpa false
set_option linter.unusedSectionVars false
open Go.RowKit Go.Shelf
attribute [local go_sem] cell_re frozen_re size_re

set_option maxRecDepth 100000 in
set_option maxHeartbeats 1600000 in
theorem one_any {lo hi : Nat} {s : SrcV} {S : Src} {x1 x2 x3 x4 : Int} {w : World}
    (hs : RSrc lo hi w s S) (hhi : hi ≤ w.heap.size) (hx1 : 0 ≤ x1) (hx2 : 0 ≤ x2) (hx3 : 0 ≤ x3) (hx4 : 0 ≤ x4 ∧ x4 ≤ 255) :
    Calls Try.prog 6 #[.agg s.cells.toArray, .int .u64 x1, .int .u64 x2, .int .u64 x3, .int .u8 x4] w fun e w' => e = .returned (.bool true) ∧ Below w.heap.size w w' := by
  have hit := hs.it
  have hpl := hs.pl
  have hrn := hs.re.nle
  have HRL := Lib.hid hs.re.len
  obtain ⟨⟨up, un, uc⟩, ⟨ip, iN, ic⟩, ⟨pp, pn, pc⟩, ⟨mp, mn, mc⟩, ⟨op, on, oc⟩, ⟨fp, fn, fc⟩, ⟨rp, rn, rc⟩, ⟨sp, sn, sc⟩⟩ := s
  dsimp only at hit hpl hrn HRL
  obtain ⟨hit, hitm⟩ := hit
  obtain ⟨hpl, hplm⟩ := hpl
  rw [← hit] at hitm
  rw [← hpl] at hplm
  have HIT := Lib.hid hit
  have HPL := Lib.hid hpl
  clear hit hpl
  obtain ⟨wB, hwB⟩ : ∃ wB, wB = w.alloc (.cells #[.slice up un uc, .slice ip iN ic, .slice pp pn pc, .slice mp mn mc, .slice op on oc, .slice fp fn fc, .slice rp rn rc, .slice sp sn sc] 31) := ⟨_, rfl⟩
  have hBB : Below w.heap.size w wB := by rw [hwB]; exact (Below.refl _ _).alloc (Nat.le_refl _) _
  have hB1 : w.heap.size < wB.heap.size := by rw [hwB]; simp
  have HO : Hid (Own wB w.heap.size 31 [.slice up un uc, .slice ip iN ic, .slice pp pn pc, .slice mp mn mc, .slice op on oc, .slice fp fn fc, .slice rp rn rc, .slice sp sn sc]) := by show Own _ _ _ _; rw [hwB]; exact Own.new w _ _
  have HS := Lib.hid (hs.keep (Nat.le_refl _) (Nat.le_refl _) (Agree.of_below hBB hhi))
  clear hs
  go_enter Try.func6, Try.ntmps6
  go_wp2_with fail
  rw [← hwB]
  clear hwB
  refine (sane_any _).mono ?_
  rintro e w1 ⟨rfl, hb⟩
  have h1 : Below wB.heap.size wB w1 := hb
  have hz1 := hb.size
  clear hb
  have bx1 := own_cells (HO.out.below h1 (by omega))
  have call := few_any (HS.out.keep (Nat.le_refl _) (Nat.le_refl _) (Agree.of_below h1 (by omega))) (by omega)
  go_wp2_with fail
  refine call.mono ?_
  clear call bx1
  rintro e w2 ⟨rfl, hb⟩
  have h2 : Below wB.heap.size wB w2 := h1.trans (hb.mono h1.size)
  have hz2 : w1.heap.size ≤ w2.heap.size := hb.size
  clear hb
  have hwB2 : w.heap.size < w2.heap.size := by omega
  cases hf : fewB S with
  | false =>
    go_wp2_with fail
    go_ret
    exact ⟨rfl, hBB.trans (h2.mono (by omega))⟩
  | true =>
    have hfew := few_rcp hf
    have bx2 := own_cells (HO.out.below h2 (by omega))
    have call := hole_any (HS.out.keep (Nat.le_refl _) (Nat.le_refl _) (Agree.of_below h2 (by omega))) (by omega) (by omega)
    go_wp2_with fail
    refine call.mono ?_
    clear call bx2
    rintro e w3 ⟨v3, rfl, ⟨ph, nh, ch, rfl, hhole, i1, i2, i3, i4⟩, hb3⟩
    have h3 := h2.trans (hb3.mono (by omega))
    have hz3 := hb3.size
    have hz30 : w.heap.size < w3.heap.size := by omega
    have bx3 := own_cells (HO.out.below h3 (by omega))
    have HH := Lib.hid hhole
    unfold IsI64 at i1 i2 i3 i4
    have hA3 : Below w3.heap.size w3 (w3.alloc (.cells #[.int .i64 (holeV S).item, .int .i64 (holeV S).plant, .int .i64 (holeV S).day, .slice ph nh ch, .int .i64 (holeV S).many] 49)) := (Below.refl _ _).alloc (Nat.le_refl _) _
    have hO3 : Own (w3.alloc (.cells #[.int .i64 (holeV S).item, .int .i64 (holeV S).plant, .int .i64 (holeV S).day, .slice ph nh ch, .int .i64 (holeV S).many] 49)) w3.heap.size 49 [.int .i64 (holeV S).item, .int .i64 (holeV S).plant, .int .i64 (holeV S).day, .slice ph nh ch, .int .i64 (holeV S).many] := Own.new w3 _ _
    have HO3 := Lib.hid hO3
    have call := all_any (HS.out.keep (Nat.le_refl _) (Nat.le_refl _) (Agree.of_below (h3.trans (hA3.mono (by omega))) (by omega))) (by simp; omega)
    clear hb3 hhole hO3
    go_wp2_with fail
    refine call.mono ?_
    clear call bx3
    rintro e w4 ⟨p4, n4, c4, rfl, hall, hb4'⟩
    have hz4 := hb4'.size
    simp only [World.size_alloc] at hz4
    have hb4 := hA3.trans (hb4'.mono (by simp))
    have h4 := h3.trans (hb4.mono (by omega))
    have HO4 := Lib.hid (HO3.out.below hb4' (by simp))
    have HH4 := Lib.hid (HH.out.keep RInt.keeps (Nat.le_refl _) (Nat.le_refl _) (Agree.of_below hb4 (Nat.le_refl _)))
    have HA4 := Lib.hid hall
    have hn4 := hall.nle
    have HL4 := Lib.hid hall.len
    have hz40 : w.heap.size < w4.heap.size := by omega
    have hz43 : w3.heap.size < w4.heap.size := by omega
    have HS4 := Lib.hid (HS.out.keep (Nat.le_refl _) (Nat.le_refl _) (Agree.of_below h4 (by omega)))
    have hhi4 : hi ≤ w4.heap.size := by omega
    clear hall hb4 hb4' HO3 hA3
    cases hv : validB S with
    | false =>
      have ea : allE S = 130 := by rw [allE, hv]; rfl
      have eh : (holeOf S).isSome = false := by rw [holeOf_invalid hv]; rfl
      have hbf := hBB.trans (h4.mono (by omega))
      clear hv
      go_wp2_with fail
      go_ret
      exact ⟨rfl, hbf⟩
    | true =>
      have ea : allE S = 0 := by rw [allE, hv]; rfl
      have Hv := Lib.hid hv
      clear hv
      have bx4 := own_cells (HO.out.below h4 (by omega))
      cases hh : holeOf S with
      | some x =>
        obtain ⟨⟨pi, pp'⟩, pd, pc'⟩ := x
        obtain ⟨k1, k2, ⟨k3, k4⟩, ⟨k5, k6⟩, ⟨k7, k8⟩, k9⟩ := hole_is hh
        dsimp only at k2 k3 k4 k5 k6 k9
        have hV : holeV S = ⟨pi, pp', pd, pc', (whichL S pi pp' pd pc').length⟩ := by rw [holeV, hh]
        have eS : (holeOf S).isSome = true := by rw [hh]; rfl
        have eE : whichE S pc' = 0 := by rw [whichE, k1]; rfl
        have HOh := HO4.out
        have HHh := HH4.out
        rw [hV] at HOh HHh i1 i2 i3 i4
        dsimp only at HOh HHh i1 i2 i3 i4
        have b4 := own_cells HOh
        have call := which_any HS4.out HHh (by omega) (by omega) (by omega) i1 i2 i3
        rw [eE] at call
        have HOH := Lib.hid HOh
        have K2 := Lib.hid k2
        have K9 := Lib.hid k9
        clear hh hV HO4 HH4 HH HOh HHh k1 k2 k9 eE
        have q4 : pi < (iN : Int) := by rw [HIT.out]; exact k4
        have q6 : pp' < (pn : Int) := by rw [HPL.out]; exact k6
        clear k4 k6
        go_wp2_with fail
        refine call.mono ?_
        clear call b4 bx4
        rintro e w5 ⟨pw, nw, cw, rfl, hws, hb5⟩
        have hz5 := hb5.size
        have h5 := h4.trans (hb5.mono (by omega))
        have bx5 := own_cells (HO.out.below h5 (by omega))
        have hO5 := HOH.out.below hb5 (by omega)
        rw [hws.len] at hO5
        have b5 := own_cells hO5
        have hnw := hws.nle
        have k2 : ((nw : Int) != 1) = true := by have := K2.out; rw [hws.len] at this; simp; omega
        have kk : ((nw : Int) == (nw : Int)) = true := by simp
        have hz50 : w.heap.size < w5.heap.size := by omega
        have hz53 : w3.heap.size < w5.heap.size := by omega
        have call := makes_any (item := pi) (plant := pp') (HS4.out.keep (Nat.le_refl _) (Nat.le_refl _) (Agree.of_below hb5 (by omega))) (by omega) i1 i2
        rw [K9.out] at call
        clear hws hO5
        go_wp2_with fail
        refine call.mono ?_
        clear call b5 bx5
        rintro e w6 ⟨rfl, hb6⟩
        have hbf := hBB.trans ((h5.trans (hb6.mono (by omega))).mono (by omega))
        clear hb6
        go_wp2_with fail
        go_ret
        exact ⟨rfl, hbf⟩
      | none =>
        have eS : (holeOf S).isSome = false := by rw [hh]; rfl
        have ES := Lib.hid eS
        clear hh
        by_cases c1 : n4 = 0
        · subst c1
          have hbf := hBB.trans (h4.mono (by omega))
          go_wp2_with fail
          go_ret
          exact ⟨rfl, hbf⟩
        · have d1 : ((n4 : Int) == 0) = false := by simp; omega
          by_cases c2 : iN = 0
          · have d2 : ((iN : Int) == 0) = true := by simp; omega
            have hbf := hBB.trans (h4.mono (by omega))
            clear c2
            go_wp2_with fail
            go_ret
            exact ⟨rfl, hbf⟩
          · have d2 : ((iN : Int) == 0) = false := by simp; omega
            by_cases c3 : pn = 0
            · have d3 : ((pn : Int) == 0) = true := by simp; omega
              have hbf := hBB.trans (h4.mono (by omega))
              clear c3
              go_wp2_with fail
              go_ret
              exact ⟨rfl, hbf⟩
            · have d3 : ((pn : Int) == 0) = false := by simp; omega
              obtain ⟨i, ei, i10, i11⟩ : ∃ i, x1 % (iN : Int) = i ∧ 0 ≤ i ∧ i < (iN : Int) := ⟨_, rfl, Int.emod_nonneg _ (by omega), Int.emod_lt_of_pos _ (by omega)⟩
              obtain ⟨p, ep, p10, p11⟩ : ∃ p, x2 % (pn : Int) = p ∧ 0 ≤ p ∧ p < (pn : Int) := ⟨_, rfl, Int.emod_nonneg _ (by omega), Int.emod_lt_of_pos _ (by omega)⟩
              obtain ⟨d, ed, d10, d11⟩ : ∃ d, x3 % 1024 = d ∧ 0 ≤ d ∧ d < 1024 := ⟨_, rfl, Int.emod_nonneg _ (by omega), Int.emod_lt_of_pos _ (by omega)⟩
              obtain ⟨k, ek, k11⟩ : ∃ k : Nat, x4 % (n4 : Int) = (k : Int) ∧ k < n4 := by
                have h1 := Int.emod_nonneg x4 (b := (n4 : Int)) (by omega)
                have h2 := Int.emod_lt_of_pos x4 (b := (n4 : Int)) (by omega)
                exact ⟨(x4 % (n4 : Int)).toNat, by omega, by omega⟩
              have EK := Lib.hid ek
              clear ek
              go_upto_region 14 with fail
              go_quiet (fail)
              go_upto_region 15 with fail
              clear ei ep ed
              have ek := EK.out
              obtain ⟨w5, hw5⟩ : ∃ w5, w5 = w4.drewN nq := ⟨_, rfl⟩
              have hb5 : Below w4.heap.size w4 w5 := by rw [hw5]; exact below_drewN (Below.refl _ _) _
              rw [← hw5]
              clear hw5 bx4
              have hz5 := hb5.size
              have h5 := h4.trans (hb5.mono (by omega))
              have bx5 := own_cells (HO.out.below h5 (by omega))
              obtain ⟨c, bl, ol, p', n', c', hxc, hpe, hlol, hbl, c0, hcs⟩ := slice_ints (HA4.out.keep (RSlice.keeps RInt.keeps 1) (Nat.le_refl _) (Nat.le_refl _) (Agree.of_below hb5 (Nat.le_refl _))) k11
              subst hpe
              have hperm := mem_allL.1 (List.mem_of_getElem? hxc)
              have HPM := Lib.hid hperm
              have HCS := Lib.hid hcs
              have hwB5 : w.heap.size < w5.heap.size := by omega
              have hbl5 : bl < w5.heap.size := by omega
              clear hxc hperm hcs
              refine wp_region_mid 12 (fun w' => ∃ n, w' = w5.drewN n) (fun a b => b = a) _ rfl (by kernel_rfl) (by kernel_rfl) ⟨1, rfl⟩ ?_
              simp only [List.take_succ_cons, List.take_zero, List.drop_succ_cons, List.drop_zero]
              repeat (go_big_quiet_step (first | exact rfl))
              refine wpQuiet_nil ?_
              rintro w6 ⟨m6, hw6⟩
              have hb6 : Below w5.heap.size w5 w6 := by rw [hw6]; exact below_drewN (Below.refl _ _) _
              clear hw6
              have hz6 := hb6.size
              have call := which_any (item := i) (plant := p) (day := d) (HS4.out.keep (Nat.le_refl _) (Nat.le_refl _) (Agree.of_below (hb5.trans (hb6.mono (by omega))) (by omega))) (HCS.out.keep RInt.keeps (Nat.le_refl _) (Nat.le_refl _) (Agree.of_below hb6 (by omega))) (by omega) (by omega) (by omega) ⟨by omega, by omega⟩ ⟨by omega, by omega⟩ ⟨by omega, by omega⟩
              have eE : whichE S c = 0 := by rw [whichE, HPM.out]; rfl
              rw [eE] at call
              clear eE
              go_wp2_with fail
              refine call.mono ?_
              clear call bx5
              rintro e w7 ⟨pw, nw, cw, rfl, hws, hb7⟩
              have hz7 := hb7.size
              have g7 := hb5.trans ((hb6.trans (hb7.mono (by omega))).mono (by omega))
              have h7 := h4.trans (g7.mono (by omega))
              have hwB7 : w.heap.size < w7.heap.size := by omega
              go_wp2_with fail
              refine ⟨rfl, ?_⟩
              repeat (go_big_quiet_step (first | exact rfl))
              refine wpQuiet_nil ?_
              rintro w8 rfl
              have bx8 := own_cells (HO.out.below h7 (by omega))
              have call := makes_any (item := i) (plant := p) (HS4.out.keep (Nat.le_refl _) (Nat.le_refl _) (Agree.of_below g7 (by omega))) (by omega) ⟨by omega, by omega⟩ ⟨by omega, by omega⟩
              have hbf := hBB.trans (h7.mono (by omega))
              cases hm : makesB S i p with
              | false =>
                rw [hm] at call
                have hwn := hws.len
                rw [which_nothing hm] at hwn
                have hn0 : nw = 0 := hwn.symm
                subst hn0
                clear hm hwn
                go_wp2_with fail
                refine call.mono ?_
                clear call
                rintro e w9 ⟨rfl, hb9⟩
                have hbg := hbf.trans (hb9.mono (by omega))
                clear hb9
                go_wp2_with fail
                go_ret
                exact ⟨rfl, hbg⟩
              | true =>
                rw [hm] at call
                obtain ⟨kr, r, hw1, hr, hri, hrp⟩ := which_one (d := d) ES.out HPM.out ⟨i10, by rw [← HIT.out]; exact i11⟩ ⟨p10, by rw [← HPL.out]; exact p11⟩ ⟨d10, d11⟩ hm
                rw [hw1] at hws
                have hwn := hws.len
                have hn1 : nw = 1 := hwn.symm
                subst hn1
                have HWS := Lib.hid hws
                have HR := Lib.hid hr
                subst hri hrp
                clear hm hwn hw1 hws hr
                go_wp2_with fail
                refine call.mono ?_
                clear call
                rintro e w9 ⟨rfl, hb9⟩
                have hz9 := hb9.size
                have hbg := hbf.trans (hb9.mono (by omega))
                have g9 := g7.trans (hb9.mono (by omega))
                have h9 := h4.trans (g9.mono (by omega))
                obtain ⟨v, b2, o2, hv, hpe2, _, hb2, v1, v2, d0⟩ := slice_int (HWS.out.keep RInt.keeps (Nat.le_refl _) (Nat.le_refl _) (Agree.of_below hb9 (by omega))) (k := 0) (by omega)
                subst hpe2
                have hv' : v = (kr : Int) := by simpa using hv.symm
                subst hv'
                have hkr : kr < rn := by have h1 := lt_of_some HR.out; have h2 := HRL.out; omega
                obtain ⟨x, br, orr, rr, pr, nr, cr, hx, hpe3, hbr2, _, j1, j2, j3, j4, hcr⟩ := slice_rcp ((HS4.out.keep (Nat.le_refl _) (Nat.le_refl _) (Agree.of_below g9 (by omega))).re) hkr
                have hxr : x = r := by have h1 := HR.out; rw [show S.recipes[kr]? = some x from hx] at h1; injection h1
                subst hxr
                have e15 := hcr 15 _ rfl
                have e16 := hcr 16 _ rfl
                have hbl9 : b2 < w9.heap.size := by omega
                have hbr9 : br < w9.heap.size := by omega
                have hwB9 : w.heap.size < w9.heap.size := by omega
                have bx9 := own_cells (HO.out.below h9 (by omega))
                subst hpe3
                rw [Nat.add_zero] at d0
                clear hb9 hv hx hcr g9 g7 h9
                go_upto_region 20 with fail
                go_quiet (fail)
                go_wp2_with fail
                go_ret
                exact ⟨rfl, below_drewN hbg _⟩
end Go.Proofs.Ytpbajggbinljiaa
