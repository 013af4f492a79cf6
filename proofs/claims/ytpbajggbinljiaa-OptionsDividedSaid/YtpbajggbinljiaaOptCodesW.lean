/-
  backflushlaw13.OptionsCodes, walked: it returns true.
-/
import Derived.Test.YtpbajggbinljiaaOptSpecW
import Derived.Test.YtpbajggbinljiaaOptLawA
namespace Go.Proofs.Ytpbajggbinljiaa
set_option linter.unusedVariables false
set_option linter.unusedSimpArgs false
set_option linter.unnecessarySimpa false
set_option linter.unusedSectionVars false
open Go.RowKit Go.Shelf
attribute [local go_sem] cell_re frozen_re size_re

theorem allL_nil {S : Src} (h : validB S = false) : allL S = [] := by rw [allL, h]; rfl
theorem codeE_eq0 (S : Src) (c : List Int) : (codeE S c == 0) = permB S c := by
  unfold codeE; cases permB S c <;> rfl
theorem cfgE_eq0 (S : Src) (n : Int) : (cfgE S n == 0) = cfgB S n := by
  unfold cfgE; cases cfgB S n <;> rfl
theorem cfgB_invalid' {S : Src} {n : Int} (h : validB S = false) : cfgE S n = 130 := by rw [cfgE, cfgB_invalid h]; rfl
theorem codeE_invalid {S : Src} {c : List Int} (h : validB S = false) : codeE S c = 130 := by rw [codeE, permB_invalid h]; rfl
theorem codeZ_i64 {S : Src} {c : List Int} (h : permB S c = true) : 0 ≤ codeZ c ∧ codeZ c ≤ 4096 := by
  have h1 := perm_codeZ h
  have h2 := (perm_digs h).2
  have h3 := pow4_le (Nat.le_refl _) (validB_le (permB_parts h).1)
  omega

theorem mem_take_succ {α : Type} {l : List α} {k : Nat} {x c : α} (hx : l[k]? = some x) : c ∈ l.take (k + 1) ↔ c ∈ l.take k ∨ c = x := by
  rw [take_succ_some hx, List.mem_append, List.mem_singleton]
def Met (b : Bool) (l : List (List Int)) (k : Nat) (c : List Int) : Prop := b = true ↔ c ∈ l.take k
def Back (b : Bool) (l : List (List Int)) (k : Nat) (n : Int) : Prop := b = true ↔ ∃ x ∈ l.take k, codeZ x = n
theorem met_yes {l : List (List Int)} {k : Nat} {x c : List Int} (hx : l[k]? = some x) (h : c ∈ l.take k ∨ c = x) : Met true l (k + 1) c := ⟨fun _ => (mem_take_succ hx).2 h, fun _ => rfl⟩
theorem met_no {l : List (List Int)} {k : Nat} {x c : List Int} (hx : l[k]? = some x) (h : Met false l k c) (hn : ¬ x = c) : Met false l (k + 1) c :=
  ⟨fun h => (by cases h), fun hm => by
    rcases (mem_take_succ hx).1 hm with h1 | h1
    · exact h.2 h1
    · exact absurd h1.symm hn⟩
theorem back_yes {l : List (List Int)} {k : Nat} {x : List Int} {n : Int} (hx : l[k]? = some x) (h : (∃ y ∈ l.take k, codeZ y = n) ∨ codeZ x = n) : Back true l (k + 1) n :=
  ⟨fun _ => by
    rcases h with ⟨y, h1, h2⟩ | h2
    · exact ⟨y, (mem_take_succ hx).2 (.inl h1), h2⟩
    · exact ⟨x, (mem_take_succ hx).2 (.inr rfl), h2⟩, fun _ => rfl⟩
theorem back_no {l : List (List Int)} {k : Nat} {x : List Int} {n : Int} (hx : l[k]? = some x) (h : Back false l k n) (hn : ¬ codeZ x = n) : Back false l (k + 1) n :=
  ⟨fun h => (by cases h), fun ⟨y, h1, h2⟩ => by
    rcases (mem_take_succ hx).1 h1 with h3 | h3
    · exact h.2 ⟨y, h3, h2⟩
    · subst h3; exact absurd h2 hn⟩

set_option maxRecDepth 100000 in
set_option maxHeartbeats 8000000 in
theorem codes_any {lo hi lo2 hi2 : Nat} {s : SrcV} {S : Src} {q : Option Addr} {m cap2 : Nat} {c : List Int} {n : Int} {w : World}
    (hs : RSrc lo hi w s S) (hc : SliceOf RInt 1 lo2 hi2 w q m cap2 c) (hhi : hi ≤ w.heap.size) (hhi2 : hi2 ≤ w.heap.size) (hn : IsI64 n) :
    Calls Try.prog 4 #[.agg s.cells.toArray, .slice q m cap2, .int .i64 n] w fun e w' => e = .returned (.bool true) ∧ Below w.heap.size w w' := by
  have hmm := hc.nle
  obtain ⟨⟨up, un, uc⟩, ⟨ip, iN, ic⟩, ⟨pp, pn, pc⟩, ⟨mp, mn, mc⟩, ⟨op, on, oc⟩, ⟨fp, fn, fc⟩, ⟨rp, rn, rc⟩, ⟨sp, sn, sc⟩⟩ := s
  obtain ⟨wB, hwB⟩ : ∃ wB, wB = w.alloc (.cells #[.slice up un uc, .slice ip iN ic, .slice pp pn pc, .slice mp mn mc, .slice op on oc, .slice fp fn fc, .slice rp rn rc, .slice sp sn sc] 31) := ⟨_, rfl⟩
  have hBB : Below w.heap.size w wB := by rw [hwB]; exact (Below.refl _ _).alloc (Nat.le_refl _) _
  have hzB : wB.heap.size = w.heap.size + 1 := by rw [hwB]; simp
  have HO : Hid (Own wB w.heap.size 31 [.slice up un uc, .slice ip iN ic, .slice pp pn pc, .slice mp mn mc, .slice op on oc, .slice fp fn fc, .slice rp rn rc, .slice sp sn sc]) := by show Own _ _ _ _; rw [hwB]; exact Own.new w _ _
  have HS := Lib.hid (hs.keep (Nat.le_refl _) (Nat.le_refl _) (Agree.of_below hBB hhi))
  have HC := Lib.hid (hc.keep RInt.keeps (Nat.le_refl _) (Nat.le_refl _) (Agree.of_below hBB hhi2))
  clear hs hc
  go_enter Try.func4, Try.ntmps4
  go_wp2_with fail
  rw [← hwB]
  clear hwB
  refine (sane_any _).mono ?_
  rintro e w1 ⟨rfl, hb⟩
  have h1 : Below wB.heap.size wB w1 := hb
  have hz1 := hb.size
  clear hb
  have bx1 := own_cells (HO.out.below h1 (by omega))
  have call := few_any (HS.out.keep (Nat.le_refl _) (Nat.le_refl _) (Agree.of_below h1 (by omega))) (by omega)
  go_wp2_with fail
  refine call.mono ?_
  clear call bx1
  rintro e w2 ⟨rfl, hb⟩
  have h2 : Below wB.heap.size wB w2 := h1.trans (hb.mono h1.size)
  have hz2 : w1.heap.size ≤ w2.heap.size := hb.size
  clear hb
  cases hf : fewB S with
  | false =>
    go_wp2_with fail
    go_ret
    exact ⟨rfl, hBB.trans (h2.mono (by omega))⟩
  | true =>
    by_cases hm12 : 12 < m
    · have d1 : decide ((12 : Int) < (m : Int)) = true := by simp; omega
      go_wp2_with fail
      go_ret
      exact ⟨rfl, hBB.trans (h2.mono (by omega))⟩
    · have d1 : decide ((12 : Int) < (m : Int)) = false := by simp; omega
      have bx2 := own_cells (HO.out.below h2 (by omega))
      have call := all_any (HS.out.keep (Nat.le_refl _) (Nat.le_refl _) (Agree.of_below h2 (by omega))) (by omega)
      go_wp2_with fail
      refine call.mono ?_
      clear call bx2
      rintro e w3 ⟨p3, n3, c3, rfl, hall, hb⟩
      have h3 : Below wB.heap.size wB w3 := h2.trans (hb.mono h2.size)
      have hz3 : w2.heap.size ≤ w3.heap.size := hb.size
      have HA := Lib.hid hall
      clear hb hall
      have bx3 := own_cells (HO.out.below h3 (by omega))
      have call := codeC_any (HS.out.keep (Nat.le_refl _) (Nat.le_refl _) (Agree.of_below h3 (by omega))) (HC.out.keep RInt.keeps (Nat.le_refl _) (Nat.le_refl _) (Agree.of_below h3 (by omega))) (by omega) (by omega)
      go_wp2_with fail
      refine call.mono ?_
      clear call bx3
      rintro e w4 ⟨rfl, hb⟩
      have g4 : Below w3.heap.size w3 w4 := hb
      have h4 : Below wB.heap.size wB w4 := h3.trans (hb.mono h3.size)
      have hz4 : w3.heap.size ≤ w4.heap.size := hb.size
      clear hb
      have bx4 := own_cells (HO.out.below h4 (by omega))
      have call := config_any (n := n) (HS.out.keep (Nat.le_refl _) (Nat.le_refl _) (Agree.of_below h4 (by omega))) (by omega) hn
      go_wp2_with fail
      refine call.mono ?_
      clear call bx4
      rintro e w5 ⟨p5, n5, c5, rfl, hl5, hb⟩
      have g5 : Below w3.heap.size w3 w5 := g4.trans (hb.mono g4.size)
      have h5 : Below wB.heap.size wB w5 := h4.trans (hb.mono h4.size)
      have hz5 : w4.heap.size ≤ w5.heap.size := hb.size
      have HD := Lib.hid hl5
      clear hb hl5
      cases hv : validB S with
      | false =>
        have ea : allE S = 130 := by rw [allE, hv]; rfl
        have ec : codeE S c = 130 := codeE_invalid hv
        have eg : cfgE S n = 130 := cfgB_invalid' hv
        have el := HA.out.len
        rw [allL_nil hv] at el
        have en : n3 = 0 := el.symm
        subst en
        clear el hv
        have hbf := hBB.trans (h5.mono (by omega))
        go_wp2_with fail
        go_ret
        exact ⟨rfl, hbf⟩
      | true =>
        have ea : allE S = 0 := by rw [allE, hv]; rfl
        have Hv := Lib.hid hv
        clear hv
        have hn3 := HA.out.nle
        have HA5 := Lib.hid (HA.out.keep (RSlice.keeps RInt.keeps 1) (Nat.le_refl _) (Nat.le_refl _) (Agree.of_below g5 (Nat.le_refl _)))
        have HLn := Lib.hid HA.out.len
        clear HA
        go_wp2_with fail
        go_loopw [13, 14, 15, 66] (fun b u v i wr => ∃ (k : Nat) (z : Int) (bm bb : Bool), k ≤ n3 ∧ b = .int .i64 z ∧ u = .bool bm ∧ v = .bool bb ∧ i = .int .i64 k ∧ (-1 ≤ z ∧ z ≤ 4096) ∧ Hid (∀ x, (allL S)[k]? = some x → z < codeZ x) ∧ Hid (Met bm (allL S) k c) ∧ Hid (Back bb (allL S) k n) ∧ Below w5.heap.size w5 wr) (fun _ _ _ i _ => n3 - (intOf i).toNat)
        case atStart =>
          refine ⟨0, -1, false, false, Nat.zero_le _, rfl, rfl, rfl, rfl, by omega, ?_, ?_, ?_, Below.refl _ _⟩
          · intro x hx
            have := codeZ_i64 (mem_allL.1 (List.mem_of_getElem? hx))
            omega
          · show Met _ _ _ _; simp [Met]
          · show Back _ _ _ _; simp [Back]
        case round =>
          obtain ⟨k, z, bm, bb, hk, rfl, rfl, rfl, rfl, hz, HZ, HM, HB, hbr⟩ := hrel
          have hzr := hbr.size
          by_cases hlt : k < n3
          · obtain ⟨x, bl, ol, p', n', c', hxc, hpe, hlol, hbl, c0, hcs⟩ := slice_ints (HA5.out.keep (RSlice.keeps RInt.keeps 1) (Nat.le_refl _) (Nat.le_refl _) (Agree.of_below hbr (by omega))) hlt
            subst hpe
            have hbl2 : bl < wr.heap.size := by omega
            have hperm := mem_allL.1 (List.mem_of_getElem? hxc)
            have hcz := codeZ_i64 hperm
            have e1 : codeOf S x = codeZ x := by rw [codeOf, hperm]; rfl
            have e2 : codeE S x = 0 := by rw [codeE, hperm]; rfl
            have e3 := cfgL_of hperm
            have e4 := cfgE_of hperm
            have hlz := HZ.out x hxc
            have Hxc := Lib.hid hxc
            have HP := Lib.hid hperm
            have hwB : w.heap.size < wr.heap.size := by omega
            have hr5 := h5.trans (hbr.mono (by omega))
            have bxr := own_cells (HO.out.below hr5 (by omega))
            have call := codeC_any (HS.out.keep (Nat.le_refl _) (Nat.le_refl _) (Agree.of_below hr5 (by omega))) hcs (by omega) (by omega)
            rw [e1, e2] at call
            clear hxc hperm e1 e2
            have E3 := Lib.hid e3
            have E4 := Lib.hid e4
            clear e3 e4
            go_wp2_with fail
            refine call.mono ?_
            clear call bxr
            rintro e w6 ⟨rfl, hb⟩
            have h6 := hr5.trans (hb.mono (by omega))
            have hz6 := hb.size
            have bx6 := own_cells (HO.out.below h6 (by omega))
            have call := config_any (n := codeZ x) (HS.out.keep (Nat.le_refl _) (Nat.le_refl _) (Agree.of_below h6 (by omega))) (by omega) ⟨by omega, by omega⟩
            rw [E3.out, E4.out] at call
            go_wp2_with fail
            refine call.mono ?_
            clear call bx6
            rintro e w7 ⟨p7, n7, c7, rfl, hl7, hb7⟩
            have g7 := hb.trans (hb7.mono hb.size)
            have h7 := h6.trans (hb7.mono (by omega))
            have hz7 := hb7.size
            have bx7 := own_cells (HO.out.below h7 (by omega))
            have hx7 := hcs.keep RInt.keeps (Nat.le_refl _) (Nat.le_refl _) (Agree.of_below g7 (by omega))
            have call := sameInts_any hx7 hl7 (by omega) (Nat.le_refl _)
            rw [decide_eq_true rfl] at call
            have HX7 := Lib.hid hx7
            have dz : decide (codeZ x ≤ z) = false := by simp; omega
            have hwB7 : w.heap.size < w7.heap.size := by omega
            have G7 := Lib.hid (hbr.trans (g7.mono (by omega)))
            clear hb hb7 hl7 hcs g7 hx7
            go_wp2_with fail
            refine call.mono ?_
            clear call bx7
            rintro e w8 ⟨rfl, m8, hd8⟩
            have g8 : Below w7.heap.size w7 w8 := by rw [hd8]; exact below_drewN (Below.refl _ _) _
            clear hd8
            have hz8 := g8.size
            have h8 := h7.trans (g8.mono (by omega))
            have bx8 := own_cells (HO.out.below h8 (by omega))
            have call := validC_any (HS.out.keep (Nat.le_refl _) (Nat.le_refl _) (Agree.of_below h8 (by omega))) (HX7.out.keep RInt.keeps (Nat.le_refl _) (Nat.le_refl _) (Agree.of_below g8 (by omega))) (by omega) (by omega)
            rw [HP.out] at call
            have G8 := Lib.hid (G7.out.trans (g8.mono (by omega)))
            have G79 := Lib.hid g8
            clear g8 G7
            go_wp2_with fail
            refine call.mono ?_
            clear call bx8
            rintro e w9 ⟨rfl, hb9⟩
            have hz9 := hb9.size
            have h9 := h8.trans (hb9.mono (by omega))
            have G9 := Lib.hid (G8.out.trans (hb9.mono (by omega)))
            have HX9 := Lib.hid (HX7.out.keep RInt.keeps (Nat.le_refl _) (Nat.le_refl _) (Agree.of_below (G79.out.trans (hb9.mono (by omega))) (by omega)))
            have hpos : 0 ≤ n3 := Nat.zero_le _
            clear hb9 G8 HX7 G79
            cases bm with
            | true =>
              have HM1 := Lib.hid (met_yes Hxc.out (.inl (HM.out.1 rfl)))
              have G10 := G9
              have HX10 := HX9
              clear HM
              cases bb with
              | true =>
                have HB1 := Lib.hid (back_yes Hxc.out (.inl (HB.out.1 rfl)))
                go_wp2_with fail
                go_roundw
                case rel => exact ⟨k + 1, codeZ x, _, _, by omega, rfl, rfl, rfl, by go_num, by omega, Lib.hid (fun x' hx' => allL_before Hxc.out hx' (by omega)), HM1, HB1, G10.out⟩
                case measure => simp [intOf]; omega
              | false =>
                by_cases hzn : codeZ x = n
                · have e5 : (codeZ x == n) = true := by simpa using hzn
                  have HB1 := Lib.hid (back_yes Hxc.out (.inr hzn))
                  have hd : cfgL S n = x := by rw [← hzn]; exact E3.out
                  have call := sameInts_any HX10.out (HD.out.keep RInt.keeps (Nat.le_refl _) (Nat.le_refl _) (Agree.of_below G10.out (by omega))) (by omega) (by omega)
                  rw [hd, decide_eq_true rfl] at call
                  clear hzn hd
                  go_wp2_with fail
                  refine call.mono ?_
                  clear call
                  rintro e w11 ⟨rfl, m11, hd11⟩
                  have G11 := Lib.hid (show Below w5.heap.size w5 w11 by rw [hd11]; exact below_drewN G10.out _)
                  clear hd11
                  go_wp2_with fail
                  go_roundw
                  case rel => exact ⟨k + 1, codeZ x, _, _, by omega, rfl, rfl, rfl, by go_num, by omega, Lib.hid (fun x' hx' => allL_before Hxc.out hx' (by omega)), HM1, HB1, G11.out⟩
                  case measure => simp [intOf]; omega
                · have e5 : (codeZ x == n) = false := by simpa using hzn
                  have HB1 := Lib.hid (back_no Hxc.out HB.out hzn)
                  clear hzn HB
                  go_wp2_with fail
                  go_roundw
                  case rel => exact ⟨k + 1, codeZ x, _, _, by omega, rfl, rfl, rfl, by go_num, by omega, Lib.hid (fun x' hx' => allL_before Hxc.out hx' (by omega)), HM1, HB1, G10.out⟩
                  case measure => simp [intOf]; omega
            | false =>
              by_cases hxc : x = c
              · have HM1 := Lib.hid (met_yes Hxc.out (.inr hxc.symm))
                have e6 : (codeOf S c == codeZ x) = true := by rw [← hxc, codeOf, HP.out]; simp
                have call := sameInts_any HX9.out (HC.out.keep RInt.keeps (Nat.le_refl _) (Nat.le_refl _) (Agree.of_below h9 (by omega))) (by omega) (by omega)
                rw [decide_eq_true hxc] at call
                clear hxc HM
                go_wp2_with fail
                refine call.mono ?_
                clear call
                rintro e w10 ⟨rfl, m10, hd10⟩
                have g10 : Below w9.heap.size w9 w10 := by rw [hd10]; exact below_drewN (Below.refl _ _) _
                clear hd10
                have hz10 := g10.size
                have G10 := Lib.hid (G9.out.trans (g10.mono (by omega)))
                have HX10 := Lib.hid (HX9.out.keep RInt.keeps (Nat.le_refl _) (Nat.le_refl _) (Agree.of_below g10 (by omega)))
                clear g10
                go_upto_region 21 with fail
                cases bb with
                | true =>
                  have HB1 := Lib.hid (back_yes Hxc.out (.inl (HB.out.1 rfl)))
                  go_wp2_with fail
                  go_roundw
                  case rel => exact ⟨k + 1, codeZ x, _, _, by omega, rfl, rfl, rfl, by go_num, by omega, Lib.hid (fun x' hx' => allL_before Hxc.out hx' (by omega)), HM1, HB1, G10.out⟩
                  case measure => simp [intOf]; omega
                | false =>
                  by_cases hzn : codeZ x = n
                  · have e5 : (codeZ x == n) = true := by simpa using hzn
                    have HB1 := Lib.hid (back_yes Hxc.out (.inr hzn))
                    have hd : cfgL S n = x := by rw [← hzn]; exact E3.out
                    have call := sameInts_any HX10.out (HD.out.keep RInt.keeps (Nat.le_refl _) (Nat.le_refl _) (Agree.of_below G10.out (by omega))) (by omega) (by omega)
                    rw [hd, decide_eq_true rfl] at call
                    clear hzn hd
                    go_wp2_with fail
                    refine call.mono ?_
                    clear call
                    rintro e w11 ⟨rfl, m11, hd11⟩
                    have G11 := Lib.hid (show Below w5.heap.size w5 w11 by rw [hd11]; exact below_drewN G10.out _)
                    clear hd11
                    go_wp2_with fail
                    go_roundw
                    case rel => exact ⟨k + 1, codeZ x, _, _, by omega, rfl, rfl, rfl, by go_num, by omega, Lib.hid (fun x' hx' => allL_before Hxc.out hx' (by omega)), HM1, HB1, G11.out⟩
                    case measure => simp [intOf]; omega
                  · have e5 : (codeZ x == n) = false := by simpa using hzn
                    have HB1 := Lib.hid (back_no Hxc.out HB.out hzn)
                    clear hzn HB
                    go_wp2_with fail
                    go_roundw
                    case rel => exact ⟨k + 1, codeZ x, _, _, by omega, rfl, rfl, rfl, by go_num, by omega, Lib.hid (fun x' hx' => allL_before Hxc.out hx' (by omega)), HM1, HB1, G10.out⟩
                    case measure => simp [intOf]; omega
              · have HM1 := Lib.hid (met_no Hxc.out HM.out hxc)
                have call := sameInts_any HX9.out (HC.out.keep RInt.keeps (Nat.le_refl _) (Nat.le_refl _) (Agree.of_below h9 (by omega))) (by omega) (by omega)
                rw [decide_eq_false hxc] at call
                clear hxc HM
                go_wp2_with fail
                refine call.mono ?_
                clear call
                rintro e w10 ⟨rfl, m10, hd10⟩
                have g10 : Below w9.heap.size w9 w10 := by rw [hd10]; exact below_drewN (Below.refl _ _) _
                clear hd10
                have hz10 := g10.size
                have G10 := Lib.hid (G9.out.trans (g10.mono (by omega)))
                have HX10 := Lib.hid (HX9.out.keep RInt.keeps (Nat.le_refl _) (Nat.le_refl _) (Agree.of_below g10 (by omega)))
                clear g10
                go_upto_region 21 with fail
                cases bb with
                | true =>
                  have HB1 := Lib.hid (back_yes Hxc.out (.inl (HB.out.1 rfl)))
                  go_wp2_with fail
                  go_roundw
                  case rel => exact ⟨k + 1, codeZ x, _, _, by omega, rfl, rfl, rfl, by go_num, by omega, Lib.hid (fun x' hx' => allL_before Hxc.out hx' (by omega)), HM1, HB1, G10.out⟩
                  case measure => simp [intOf]; omega
                | false =>
                  by_cases hzn : codeZ x = n
                  · have e5 : (codeZ x == n) = true := by simpa using hzn
                    have HB1 := Lib.hid (back_yes Hxc.out (.inr hzn))
                    have hd : cfgL S n = x := by rw [← hzn]; exact E3.out
                    have call := sameInts_any HX10.out (HD.out.keep RInt.keeps (Nat.le_refl _) (Nat.le_refl _) (Agree.of_below G10.out (by omega))) (by omega) (by omega)
                    rw [hd, decide_eq_true rfl] at call
                    clear hzn hd
                    go_wp2_with fail
                    refine call.mono ?_
                    clear call
                    rintro e w11 ⟨rfl, m11, hd11⟩
                    have G11 := Lib.hid (show Below w5.heap.size w5 w11 by rw [hd11]; exact below_drewN G10.out _)
                    clear hd11
                    go_wp2_with fail
                    go_roundw
                    case rel => exact ⟨k + 1, codeZ x, _, _, by omega, rfl, rfl, rfl, by go_num, by omega, Lib.hid (fun x' hx' => allL_before Hxc.out hx' (by omega)), HM1, HB1, G11.out⟩
                    case measure => simp [intOf]; omega
                  · have e5 : (codeZ x == n) = false := by simpa using hzn
                    have HB1 := Lib.hid (back_no Hxc.out HB.out hzn)
                    clear hzn HB
                    go_wp2_with fail
                    go_roundw
                    case rel => exact ⟨k + 1, codeZ x, _, _, by omega, rfl, rfl, rfl, by go_num, by omega, Lib.hid (fun x' hx' => allL_before Hxc.out hx' (by omega)), HM1, HB1, G10.out⟩
                    case measure => simp [intOf]; omega
          · have hk' : k = n3 := by omega
            have hlen := HLn.out
            have HM1 : Hid (bm = permB S c) := by
              show _ = _
              have h0 := HM.out
              unfold Met at h0
              rw [List.take_of_length_le (by omega), mem_allL] at h0
              exact Bool.eq_iff_iff.2 h0
            have HB1 : Hid (bb = cfgB S n) := by
              show _ = _
              have h0 := HB.out
              unfold Back at h0
              rw [List.take_of_length_le (by omega)] at h0
              refine Bool.eq_iff_iff.2 (h0.trans (Iff.trans ?_ cfgB_iff.symm))
              exact ⟨fun ⟨y, h1, h2⟩ => ⟨y, mem_allL.1 h1, h2⟩, fun ⟨y, h1, h2⟩ => ⟨y, mem_allL.2 h1, h2⟩⟩
            have em := HM1.out
            have eb := HB1.out
            clear HM HB HM1 HB1 hlen HLn
            subst em eb
            have hr5 := h5.trans (hbr.mono (by omega))
            have bxr := own_cells (HO.out.below hr5 (by omega))
            have call := validC_any (HS.out.keep (Nat.le_refl _) (Nat.le_refl _) (Agree.of_below hr5 (by omega))) (HC.out.keep RInt.keeps (Nat.le_refl _) (Nat.le_refl _) (Agree.of_below hr5 (by omega))) (by omega) (by omega)
            have E5 := codeE_eq0 S c
            have E6 := cfgE_eq0 S n
            go_wp2_with fail
            refine call.mono ?_
            clear call bxr
            rintro e w12 ⟨rfl, hb⟩
            have e1 : (permB S c == permB S c) = true := by simp
            have e2 : (cfgB S n == cfgB S n) = true := by simp
            have hbf : Below w.heap.size w w12 := hBB.trans ((hr5.trans (hb.mono (by omega))).mono (by omega))
            clear hb
            go_wp2_with fail
            go_ret
            exact ⟨rfl, hbf⟩
end Go.Proofs.Ytpbajggbinljiaa
