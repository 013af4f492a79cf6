/-
  backflushlaw13.OptionsDivided, walked: it returns true.
-/
import Derived.Test.YtpbajggbinljiaaOptOneW
import Derived.Test.YtpbajggbinljiaaOptLawD
import Derived.Test.YtpbajggbinljiaaMany2
import Derived.Test.YtpbajggbinljiaaRelTail
namespace Go.Proofs.Ytpbajggbinljiaa
set_option linter.unusedVariables false
set_option linter.unusedSimpArgs false
set_option linter.unnecessarySimpa false
set_option linter.unusedSectionVars false
open Go.RowKit Go.Shelf
attribute [local go_sem] cell_re frozen_re size_re

theorem RRcp.one : OneCells RRcp := by
  rintro lo hi w x vs ⟨r, p, n, c, rfl, _⟩ u hu
  unfold rcpCells at hu
  simp only [List.mem_cons, List.not_mem_nil, or_false] at hu
  rcases hu with rfl | rfl | rfl | rfl | rfl | rfl | rfl | rfl | rfl | rfl | rfl | rfl | rfl | rfl | rfl | rfl | rfl <;> rfl
/-- later worlds, all that was there unchanged -/
def LeB (a b : World) : Prop := Below a.heap.size a b
theorem LeB.refl (a : World) : LeB a a := Below.refl _ _
theorem LeB.trans {a b c : World} (h : LeB a b) (k : LeB b c) : LeB a c := Below.trans h (k.mono h.size)
/-- a slice of the call's own with room for nothing -/
def EmptyS (e : TypeId) (base : Nat) (v : Value) (w : World) : Prop := ∃ g, v = .slice (some ⟨g, 0, none⟩) 0 0 ∧ base ≤ g ∧ w.heap[g]? = some (.cells #[] e (0, 0))
theorem EmptyS.keep {e : TypeId} {base : Nat} {v : Value} {w w' : World} (h : EmptyS e base v w) (hb : LeB w w') : EmptyS e base v w' := by
  obtain ⟨g, rfl, hg, hh⟩ := h
  exact ⟨g, rfl, hg, (hb.block g (Array.getElem?_eq_some_iff.1 hh).1).trans hh⟩
def OneS (cs : List Value) (base : Nat) (v : Value) (w : World) : Prop := ∃ g, v = .slice (some ⟨g, 0, none⟩) 1 1 ∧ base ≤ g ∧ g < w.heap.size ∧ ∀ j u, cs[j]? = some u → w.cell? ⟨g, j, none⟩ = some u
theorem OneS.keep {cs : List Value} {base : Nat} {v : Value} {w w' : World} (h : OneS cs base v w) (hb : LeB w w') : OneS cs base v w' := by
  obtain ⟨g, rfl, hg, hl, hh⟩ := h
  exact ⟨g, rfl, hg, Nat.lt_of_lt_of_le hl hb.size, fun j u hu => (hb.cell (p := ⟨g, j, none⟩) hl).trans (hh j u hu)⟩
def RcpsS (e : TypeId) (X : Nat → Prop) (base : Nat) (L : List Rcp) (v : Value) (w : World) : Prop := Coll RRcp 17 e 0 X w v L ∧ ∀ g, v.ownBlock = some g → base ≤ g
theorem RcpsS.keep {e : TypeId} {X : Nat → Prop} {base : Nat} {L : List Rcp} {v : Value} {w w' : World} (h : RcpsS e X base L v w) (hb : LeB w w') : RcpsS e X base L v w' := ⟨h.1.below RRcp.keeps hb, h.2⟩

def zeroRcp : Value := .agg #[.string ⟨#[]⟩, .string ⟨#[]⟩, .int .i64 0, .int .i64 0, .slice none 0 0, .slice none 0 0, .slice none 0 0, .int .i64 0, .int .i64 0, .int .i64 0, .int .i64 0, .int .i64 0, .int .i64 0, .int .i64 0, .slice none 0 0, .int .i64 0, .int .i64 0]
theorem infoRcp3 : (Try.prog.info? 60).map (fun i => (i.zero, i.size, i.bytes)) = some (some zeroRcp, 17, 216) := by kernel_rfl

set_option maxRecDepth 100000 in
set_option maxHeartbeats 1600000 in
theorem div_any {lo hi lo2 hi2 : Nat} {s : SrcV} {S : Src} {q : Option Addr} {m cap2 : Nat} {c : List Int} {x1 ad x3 x4 x5 : Int} {w : World}
    (hs : RSrc lo hi w s S) (hc : SliceOf RInt 1 lo2 hi2 w q m cap2 c) (hhi : hi ≤ w.heap.size) (hhi2 : hi2 ≤ w.heap.size) (hx1 : 0 ≤ x1 ∧ x1 ≤ 255) (had : IsI64 ad) (hx3 : IsI64 x3) (hx4 : IsI64 x4) (hx5 : IsI64 x5) :
    Calls Try.prog 7 #[.agg s.cells.toArray, .int .u8 x1, .int .i64 ad, .int .i64 x3, .int .i64 x4, .int .i64 x5, .slice q m cap2] w fun e w' => e = .returned (.bool true) ∧ Below w.heap.size w w' := by
  have hmm := hc.nle
  have hrn := hs.re.nle
  have HRL := Lib.hid hs.re.len
  obtain ⟨⟨up, un, uc⟩, ⟨ip, iN, ic⟩, ⟨pp, pn, pc⟩, ⟨mp, mn, mc⟩, ⟨op, on, oc⟩, ⟨fp, fn, fc⟩, ⟨rp, rn, rc⟩, ⟨sp, sn, sc⟩⟩ := s
  dsimp only at hrn HRL
  obtain ⟨wB, hwB⟩ : ∃ wB, wB = w.alloc (.cells #[.slice up un uc, .slice ip iN ic, .slice pp pn pc, .slice mp mn mc, .slice op on oc, .slice fp fn fc, .slice rp rn rc, .slice sp sn sc] 31) := ⟨_, rfl⟩
  have hBB : Below w.heap.size w wB := by rw [hwB]; exact (Below.refl _ _).alloc (Nat.le_refl _) _
  have hB1 : w.heap.size < wB.heap.size := by rw [hwB]; simp
  have HO : Hid (Own wB w.heap.size 31 [.slice up un uc, .slice ip iN ic, .slice pp pn pc, .slice mp mn mc, .slice op on oc, .slice fp fn fc, .slice rp rn rc, .slice sp sn sc]) := by show Own _ _ _ _; rw [hwB]; exact Own.new w _ _
  have HS := Lib.hid (hs.keep (Nat.le_refl _) (Nat.le_refl _) (Agree.of_below hBB hhi))
  have HC := Lib.hid (hc.keep RInt.keeps (Nat.le_refl _) (Nat.le_refl _) (Agree.of_below hBB hhi2))
  clear hs hc
  go_enter Try.func7, Try.ntmps7
  go_wp2_with fail
  rw [← hwB]
  clear hwB
  refine (sane_any _).mono ?_
  rintro e w1 ⟨rfl, hb⟩
  have h1 : Below wB.heap.size wB w1 := hb
  have hz1 := hb.size
  clear hb
  have bx1 := own_cells (HO.out.below h1 (by omega))
  have call := few_any (HS.out.keep (Nat.le_refl _) (Nat.le_refl _) (Agree.of_below h1 (by omega))) (by omega)
  go_wp2_with fail
  refine call.mono ?_
  clear call bx1
  rintro e w2 ⟨rfl, hb⟩
  have h2 : Below wB.heap.size wB w2 := h1.trans (hb.mono h1.size)
  have hz2 : w1.heap.size ≤ w2.heap.size := hb.size
  clear hb
  have hwB2 : w.heap.size < w2.heap.size := by omega
  have hbf := hBB.trans (h2.mono (by omega))
  have bx2 := own_cells (HO.out.below h2 (by omega))
  cases hf : fewB S with
  | false =>
    go_wp2_with fail
    go_ret
    exact ⟨rfl, hbf⟩
  | true =>
    by_cases r0 : rn = 0
    · have d0 : ((rn : Int) == 0) = true := by simp; omega
      clear r0
      go_wp2_with fail
      go_ret
      exact ⟨rfl, hbf⟩
    · have d0 : ((rn : Int) == 0) = false := by simp; omega
      by_cases r8 : 8 ≤ rn
      · have d1 : decide ((8 : Int) ≤ (rn : Int)) = true := by simp; omega
        go_wp2_with fail
        go_ret
        exact ⟨rfl, hbf⟩
      · have d1 : decide ((8 : Int) ≤ (rn : Int)) = false := by simp; omega
        by_cases hm12 : 12 < m
        · have d2 : decide ((12 : Int) < (m : Int)) = true := by simp; omega
          go_wp2_with fail
          go_ret
          exact ⟨rfl, hbf⟩
        · have d2 : decide ((12 : Int) < (m : Int)) = false := by simp; omega
          obtain ⟨k, ek, k11⟩ : ∃ k : Nat, x1 % (rn : Int) = (k : Int) ∧ k < rn := by
            have h1 := Int.emod_nonneg x1 (b := (rn : Int)) (by omega)
            have h2 := Int.emod_lt_of_pos x1 (b := (rn : Int)) (by omega)
            exact ⟨(x1 % (rn : Int)).toNat, by omega, by omega⟩
          obtain ⟨r, br, orr, rr, pr, nr, cr, hr, hpe, hbr2, hif, j1, j2, j3, j4, hcr⟩ := slice_rcp ((HS.out.keep (Nat.le_refl _) (Nat.le_refl _) (Agree.of_below h2 (by omega))).re) k11
          dsimp only at hpe
          subst hpe
          have e2 := hcr 2 _ rfl
          have e3 := hcr 3 _ rfl
          have hbr3 : br < w2.heap.size := by omega
          have HR := Lib.hid hr
          have HIF := Lib.hid hif
          have HCR := Lib.hid hcr
          unfold IsI64 at j1 j2 j3 j4
          clear hr hif hcr
          by_cases c1 : ad ≤ r.frm
          · have d3 : decide (ad ≤ r.frm) = true := by simpa using c1
            go_wp2_with fail
            go_ret
            exact ⟨rfl, hbf⟩
          · have d3 : decide (ad ≤ r.frm) = false := by simpa using c1
            by_cases c2 : r.to ≤ ad
            · have d4 : decide (r.to ≤ ad) = true := by simpa using c2
              go_wp2_with fail
              go_ret
              exact ⟨rfl, hbf⟩
            · have d4 : decide (r.to ≤ ad) = false := by simpa using c2
              go_upto_region 9 with fail
              rw [ek]
              have hrl : rn = S.recipes.length := HRL.out.symm
              have HRN := Lib.hid hrl
              obtain ⟨w3, hw3⟩ : ∃ w3, w3 = w2.alloc (.cells #[.slice up un uc, .slice ip iN ic, .slice pp pn pc, .slice mp mn mc, .slice op on oc, .slice fp fn fc, .slice (some ⟨br, orr, none⟩) rn rc, .slice sp sn sc] 31) := ⟨_, rfl⟩
              have g3 : Below w2.heap.size w2 w3 := by rw [hw3]; exact (Below.refl _ _).alloc (Nat.le_refl _) _
              have hz3 : w2.heap.size < w3.heap.size := by rw [hw3]; simp
              have HX : Hid (Own w3 w2.heap.size 31 [.slice up un uc, .slice ip iN ic, .slice pp pn pc, .slice mp mn mc, .slice op on oc, .slice fp fn fc, .slice (some ⟨br, orr, none⟩) rn rc, .slice sp sn sc]) := by show Own _ _ _ _; rw [hw3]; exact Own.new w2 _ _
              rw [← hw3]
              have h3 := h2.trans (g3.mono (by omega))
              have bx3 := own_cells (HO.out.below h3 (by omega))
              have hcr3 : ∀ j u, (rcpCells r rr pr nr cr)[j]? = some u → w3.cell? ⟨br, orr + k * 17 + j, none⟩ = some u := fun j u hu => (g3.cell (p := ⟨br, orr + k * 17 + j, none⟩) hbr3).trans (HCR.out j u hu)
              have HCR3 := Lib.hid hcr3
              clear hw3 bx2 e2 e3 ek hrl hcr3 HCR
              refine wp_region_relTail 10 LeB [EmptyS 60 w3.heap.size, eqV (.pointer (some ⟨w.heap.size, 6, none⟩)), eqV (.slice (some ⟨br, orr, none⟩) rn rc), RcpsS 60 (fun b => b = w2.heap.size) w3.heap.size S.recipes,
                eqV (.pointer (some ⟨w.heap.size, 6, none⟩)), eqV (.slice (some ⟨br, orr, none⟩) rn rc), eqV (.int .i64 (k : Int)), eqV (.pointer (some ⟨br, orr + k * 17, none⟩)), eqV (.agg (rcpCells r rr pr nr cr).toArray), OneS (rcpCells r rr pr nr cr) w3.heap.size] (by kernel_rfl) (by kernel_rfl) rfl LeB.refl (fun _ _ _ => LeB.trans) ?mono ?walk
              case mono =>
                intro j R hR v w w' hg hv
                match j, hR with
                | 1, hR | 2, hR | 4, hR | 5, hR | 6, hR | 7, hR | 8, hR => simp at hR; subst hR; exact hv
                | 0, hR => simp at hR; subst hR; exact EmptyS.keep hv hg
                | 3, hR => simp at hR; subst hR; exact RcpsS.keep hv hg
                | 9, hR => simp at hR; subst hR; exact OneS.keep hv hg
                | j + 10, hR => simp at hR
              case walk =>
                simp only [List.take_succ_cons, List.take_zero, List.drop_succ_cons, List.drop_zero]
                have KK : Hid (∀ w', LeB { w3 with drawn := w3.drawn + 1 } w' → Below w3.heap.size w3 w') := fun w' hw => Below.trans ((Below.refl _ w3).drew) hw
                have hW3 : w.heap.size < w3.heap.size := by omega
                have hbr4 : br < w3.heap.size := by omega
                have HBX : Hid (∀ w', Below w3.heap.size w3 w' → ∀ j, w'.cell? ⟨w.heap.size, j, none⟩ = [.slice up un uc, .slice ip iN ic, .slice pp pn pc, .slice mp mn mc, .slice op on oc, .slice fp fn fc, .slice (some ⟨br, orr, none⟩) rn rc, .slice sp sn sc][j]?) := fun w' hw j => (hw.cell (p := ⟨w.heap.size, j, none⟩) hW3).trans (bx3 j)
                clear bx3
                -- 0
                refine ⟨fun w' hw hn => ?_, fun v => ?_⟩
                · have hb := KK.out _ hw
                  have hzz := hb.size
                  go_wp2_with fail
                  exact ⟨rfl, rfl, (Below.refl _ _).alloc (Nat.le_refl _) _, _, rfl, hzz, heap_alloc_new _ _⟩
                simp only [Act.put, List.setIfInBounds_toArray, List.set_cons_succ, List.set_cons_zero]
                -- 1
                refine ⟨fun w' hw hn => ?_, fun v => ?_⟩
                · go_wp2_with fail
                  exact ⟨rfl, rfl, LeB.refl _, rfl⟩
                simp only [Act.put, List.setIfInBounds_toArray, List.set_cons_succ, List.set_cons_zero]
                -- 2
                refine ⟨fun w' hw hn => ?_, fun v => ?_⟩
                · have bx := HBX.out _ (KK.out _ hw)
                  simp [needs, tempsOf, eqV, Op.operands, Call.operands] at hn
                  subst hn
                  go_wp2_with fail
                  exact ⟨rfl, rfl, LeB.refl _, rfl⟩
                simp only [Act.put, List.setIfInBounds_toArray, List.set_cons_succ, List.set_cons_zero]
                -- 3
                refine ⟨fun w' hw hn => ?_, fun v => ?_⟩
                · simp [needs, tempsOf, eqV, Op.operands, Call.operands] at hn
                  obtain ⟨hn1, g, hn2, hg, hh⟩ := hn
                  subst hn1 hn2
                  have hb := KK.out _ hw
                  have hzz := hb.size
                  have hgl := (Array.getElem?_eq_some_iff.1 hh).1
                  have hsl := ((HS.out.keep (Nat.le_refl _) (Nat.le_refl _) (Agree.of_below (h3.trans (hb.mono (by omega))) (by omega))).re)
                  dsimp only at hsl
                  have hcol : Coll RRcp 17 60 0 (fun b => b = w2.heap.size) w' (.slice (some ⟨g, 0, none⟩) 0 0) [] := Coll.empty RRcp hh (Nat.zero_le _) (fun (h : _ = _) => by omega) (by unfold maxLen; omega) (by simp)
                  obtain ⟨v4, w4, hr4, hcol4, _, hown4⟩ := run_append_many (P := Try.prog) RRcp.keeps RRcp.one hcol 28 28 zeroRcp 216 Try.underlying28 infoRcp3 rfl (by omega) hsl (Nat.zero_le _) (by omega) (fun g' hg' => by
                    rcases hg' with hg' | hg'
                    · simp [Value.ownBlock] at hg'; omega
                    · have : g' = w2.heap.size := hg'
                      omega) (fun (h : _ = _) => by omega) (by simp only [List.length_nil]; omega) (by simp only [List.length_nil]; unfold maxLen; omega) (Nat.zero_le _)
                  have hb4 := append_empty_below RRcp.one 28 28 zeroRcp 216 Try.underlying28 infoRcp3 (by omega) hsl (by omega) (by omega) (by unfold maxLen; omega) hr4
                  rw [List.nil_append] at hcol4
                  have hown5 : ∀ g', v4.ownBlock = some g' → w3.heap.size ≤ g' := fun g' hg' => by
                    rcases hown4 with e | e
                    · rw [e] at hg'; simp [Value.ownBlock] at hg'; omega
                    · rw [e] at hg'; injection hg' with hg'; omega
                  refine wpList_append_eq rfl (.tmp 74) (.tmp 76) 28 28 rfl rfl rfl rfl hr4 ?_
                  exact ⟨rfl, rfl, hb4, hcol4, hown5⟩
                simp only [Act.put, List.setIfInBounds_toArray, List.set_cons_succ, List.set_cons_zero]
                -- 4
                refine ⟨fun w' hw hn => ?_, fun v => ?_⟩
                · go_wp2_with fail
                  exact ⟨rfl, rfl, LeB.refl _, rfl⟩
                simp only [Act.put, List.setIfInBounds_toArray, List.set_cons_succ, List.set_cons_zero]
                -- 5
                refine ⟨fun w' hw hn => ?_, fun v => ?_⟩
                · have bx := HBX.out _ (KK.out _ hw)
                  simp [needs, tempsOf, eqV, Op.operands, Call.operands] at hn
                  subst hn
                  go_wp2_with fail
                  exact ⟨rfl, rfl, LeB.refl _, rfl⟩
                simp only [Act.put, List.setIfInBounds_toArray, List.set_cons_succ, List.set_cons_zero]
                -- 6
                refine ⟨fun w' hw hn => ?_, fun v => ?_⟩
                · go_wp2_with fail
                  exact ⟨rfl, rfl, LeB.refl _, rfl⟩
                simp only [Act.put, List.setIfInBounds_toArray, List.set_cons_succ, List.set_cons_zero]
                -- 7
                refine ⟨fun w' hw hn => ?_, fun v => ?_⟩
                · simp [needs, tempsOf, eqV, Op.operands, Call.operands] at hn
                  obtain ⟨hn1, hn2⟩ := hn
                  subst hn1 hn2
                  have hb := KK.out _ hw
                  have ec := (hb.cell (p := ⟨br, orr + k * 17, none⟩) hbr4).trans (HCR3.out 0 _ rfl)
                  go_wp2_with fail
                  exact ⟨rfl, rfl, LeB.refl _, rfl⟩
                simp only [Act.put, List.setIfInBounds_toArray, List.set_cons_succ, List.set_cons_zero]
                -- 8
                refine ⟨fun w' hw hn => ?_, fun v => ?_⟩
                · simp [needs, tempsOf, eqV, Op.operands, Call.operands] at hn
                  subst hn
                  have hb := KK.out _ hw
                  have ec : ∀ j u, (rcpCells r rr pr nr cr)[j]? = some u → w'.cell? ⟨br, orr + k * 17 + j, none⟩ = some u := fun j u hu => (hb.cell (p := ⟨br, orr + k * 17 + j, none⟩) hbr4).trans (HCR3.out j u hu)
                  refine wpList_load_agg rfl 60 _ rfl rfl Try.isAgg60 Try.sizeOf60 (rcpCells r rr pr nr cr) rfl ec ?_
                  exact ⟨rfl, rfl, LeB.refl _, rfl⟩
                simp only [Act.put, List.setIfInBounds_toArray, List.set_cons_succ, List.set_cons_zero]
                -- 9
                refine ⟨fun w' hw hn => ?_, fun v => ?_⟩
                · simp [needs, tempsOf, eqV, Op.operands, Call.operands] at hn
                  subst hn
                  have hb := KK.out _ hw
                  have hzz := hb.size
                  unfold rcpCells
                  go_wp2_with fail
                  exact ⟨rfl, rfl, (Below.refl _ _).alloc (Nat.le_refl _) _, _, rfl, hzz, by simp, fun j u hu => by simpa using hu⟩
                simp only [Act.put, List.setIfInBounds_toArray, List.set_cons_succ, List.set_cons_zero]
                -- behind them
                intro w4 hw hn
                have hb4 := KK.out _ hw
                obtain ⟨⟨g9, q9, hg9, hl9, hc9⟩, q8, q7, q6, q5, q4, ⟨hcol4, hown4⟩, q2, q1, ⟨g0, q0, _, _⟩, _⟩ := hn
                unfold eqV at q8 q7 q6 q5 q4 q2 q1
                subst q9 q8 q7 q6 q5 q4 q2 q1 q0
                have hz4 := hb4.size
                have h4 := h3.trans (hb4.mono (by omega))
                have hif4 := HIF.out.keep RCnd.keeps (Nat.le_refl _) (Nat.le_refl _) (Agree.of_below (hb4.mono (by omega) |> (g3.trans ·)) (by omega))
                have hin : SliceOf RInt 1 lo2 hi2 w4 q m cap2 c := HC.out.keep RInt.keeps (Nat.le_refl _) (Nat.le_refl _) (Agree.of_below h4 (by omega))
                clear hin
                have hLen : S.recipes.length ≤ 8 := by have := HRL.out; omega
                obtain ⟨v5, w5, hr5, hcol5, hgr5, hown5⟩ := run_append_coll1 (P := Try.prog) RRcp.keeps hcol4 28 28 zeroRcp 216 Try.underlying28 infoRcp3 rfl (by omega) ⟨g9, 0, none⟩ 1 (rcpCells r rr pr nr cr) r lo hi ⟨rr, pr, nr, cr, rfl, hif4, j1, j2, j3, j4⟩ rfl (fun j u hu => by rw [addr_add0, Nat.zero_add]; exact hc9 j u hu) (RRcp.one lo hi w4 r _ ⟨rr, pr, nr, cr, rfl, hif4, j1, j2, j3, j4⟩) (Nat.zero_le _) (by omega) (fun g' hg' => by
                  rcases hg' with hg' | hg'
                  · have := hown4 g' hg'; omega
                  · have : g' = w2.heap.size := hg'
                    omega) (fun (h : _ = _) => by omega) (by omega) (by unfold maxLen; omega) (Nat.zero_le _)
                have hz5 := hgr5.size
                have hb5 : Below w3.heap.size w3 w5 := hb4.grown hgr5 (by omega) hown4
                have h5 := h3.trans (hb5.mono (by omega))
                obtain ⟨g5, c5, hv5, _, hg5, hgX, hn5, hc5, hfz5⟩ := hcol5.shape (by simp)
                subst hv5
                have hg5' : w3.heap.size ≤ g5 := by
                  rcases hown5 with e | e
                  · exact hown4 g5 e.symm
                  · have e' : g5 = w4.heap.size := by simpa [Value.ownBlock] using e
                    omega
                obtain ⟨n5, hn5'⟩ : ∃ n5, (S.recipes ++ [r]).length = n5 := ⟨_, rfl⟩
                rw [hn5'] at hr5 hcol5 hn5
                have hrn5 : rn < n5 ∧ n5 ≤ 9 := by have := HRL.out; simp at hn5'; omega
                have HX5 := Lib.hid ((HX.out.below hb5 (by omega)))
                have by5 := own_cells HX5.out
                have fz5 := HX5.out.frozen
                have hz25 : w2.heap.size < w5.heap.size := by omega
                have HR5 := Lib.hid hr5
                have HC5 := Lib.hid hcol5
                have HN5 := Lib.hid hn5'
                clear hr5 hcol5 hn5' hown5 hgr5 hfz5 hgX hc9 hcol4 hown4 hif4
                -- the store
                go_upto_region 10 with (at_builtin; refine wpList_append_eq rfl (.tmp 77) (.tmp 83) 28 28 rfl rfl rfl rfl HR5.out ?_)
                obtain ⟨w6, hw6⟩ : ∃ w6, w6 = w5.setCell ⟨w2.heap.size, 6, none⟩ (.slice (some ⟨g5, 0, none⟩) n5 c5) := ⟨_, rfl⟩
                have HX6 : Hid (Own w6 w2.heap.size 31 [.slice up un uc, .slice ip iN ic, .slice pp pn pc, .slice mp mn mc, .slice op on oc, .slice fp fn fc, .slice (some ⟨g5, 0, none⟩) n5 c5, .slice sp sn sc]) := by show Own _ _ _ _; rw [hw6]; exact HX5.out.set 6 _
                have h6 : Below wB.heap.size wB w6 := by rw [hw6]; exact h5.setCell (by show _ ≤ w2.heap.size; omega) _
                have hz6 : w6.heap.size = w5.heap.size := by rw [hw6]; simp [World.setCell]
                have hcol6 : Coll RRcp 17 60 0 (fun b => b = w2.heap.size) w6 (.slice (some ⟨g5, 0, none⟩) n5 c5) (S.recipes ++ [r]) := HC5.out.keep RRcp.keeps (fun b _ _ hX => by rw [hw6]; exact Below.heap_setCell _ _ _ _ hX) (by omega)
                have HZ6 := Lib.hid hz6
                have hz60 : g5 < w6.heap.size := by omega
                have hz61 : w2.heap.size < w6.heap.size := by omega
                have hz62 : w.heap.size < w6.heap.size := by omega
                have hg5w : wB.heap.size ≤ g5 ∧ w2.heap.size < g5 := by omega
                clear by5 fz5 hz6
                rw [← hw6]
                clear hw6
                have hk6 : (S.recipes ++ [r])[k]? = some r := by rw [List.getElem?_append_left (by have := HRL.out; omega)]; exact HR.out
                obtain ⟨vs6, _, _, ⟨rr6, pr6, nr6, cr6, rfl, _⟩, _, hc6⟩ := hcol6.cellAt hk6
                have e63 := hc6 3 _ rfl
                have hcol7 := hcol6.setField RRcp.keeps hk6 (j := 3) (y := { r with to := ad }) (by omega) (.int .i64 ad) (fun lo hi w' vs ⟨q1, q2, q3, q4, e, q5, q6, q7, q8, q9⟩ _ => by subst e; exact ⟨q1, q2, q3, q4, rfl, q5, q6, had, q8, q9⟩)
                have fz6 : ∀ j, w6.frozen? ⟨g5, j, none⟩ = false := by
                  obtain ⟨_, _, ev6, _, _, _, _, _, fz⟩ := hcol6.shape (by simp)
                  simp only [Value.slice.injEq, Option.some.injEq, Addr.mk.injEq] at ev6
                  rw [ev6.1.1]; exact fz
                have hkn5 : k < n5 := by omega
                have by6 := own_cells HX6.out
                have H7 := Lib.hid hcol7
                clear hcol6 hcol7 hc6 hk6
                go_upto_region 11 with fail
                obtain ⟨w7, hw7⟩ : ∃ w7, w7 = w6.setCell ⟨g5, k * 17 + 3, none⟩ (.int .i64 ad) := ⟨_, rfl⟩
                have HX7 : Hid (Own w7 w2.heap.size 31 [.slice up un uc, .slice ip iN ic, .slice pp pn pc, .slice mp mn mc, .slice op on oc, .slice fp fn fc, .slice (some ⟨g5, 0, none⟩) n5 c5, .slice sp sn sc]) := by show Own _ _ _ _; rw [hw7]; exact HX6.out.setOther (p := ⟨g5, k * 17 + 3, none⟩) (by show g5 ≠ _; omega) _
                have h7 : Below wB.heap.size wB w7 := by rw [hw7]; exact h6.setCell (by show _ ≤ g5; omega) _
                have hz7 : w7.heap.size = w6.heap.size := by rw [hw7]; simp [World.setCell]
                have hcol7 : Coll RRcp 17 60 0 (fun b => b = w2.heap.size) w7 (.slice (some ⟨g5, 0, none⟩) n5 c5) ((S.recipes ++ [r]).set k { r with to := ad }) := by rw [hw7]; exact H7.out
                have hz70 : g5 < w7.heap.size := by omega
                have hz71 : w2.heap.size < w7.heap.size := by omega
                have hz72 : w.heap.size < w7.heap.size := by omega
                have HZ7 := Lib.hid hz7
                clear by6 fz6 e63 hz7 H7
                rw [← hw7]
                clear hw7
                have hk7 : ((S.recipes ++ [r]).set k { r with to := ad })[rn]? = some r := by
                  have := HRL.out
                  rw [List.getElem?_set_ne (by omega), List.getElem?_append_right (by omega), this, Nat.sub_self]; rfl
                obtain ⟨vs7, _, _, ⟨rr7, pr7, nr7, cr7, rfl, _⟩, _, hc7⟩ := hcol7.cellAt hk7
                have e72 := hc7 2 _ rfl
                have hcol8 := hcol7.setField RRcp.keeps hk7 (j := 2) (y := { r with frm := ad }) (by omega) (.int .i64 ad) (fun lo hi w' vs ⟨q1, q2, q3, q4, e, q5, q6, q7, q8, q9⟩ _ => by subst e; exact ⟨q1, q2, q3, q4, rfl, q5, had, q7, q8, q9⟩)
                have fz7 : ∀ j, w7.frozen? ⟨g5, j, none⟩ = false := by
                  obtain ⟨_, _, ev7, _, _, _, _, _, fz⟩ := hcol7.shape (by simp)
                  simp only [Value.slice.injEq, Option.some.injEq, Addr.mk.injEq] at ev7
                  rw [ev7.1.1]; exact fz
                have by7 := own_cells HX7.out
                have bx7 := own_cells (HO.out.below h7 (by omega))
                have H8 := Lib.hid hcol8
                have hrn7 : rn < n5 := hrn5.1
                clear hcol7 hcol8 hc7 hk7
                go_upto_region 12 with fail
                obtain ⟨w8, hw8⟩ : ∃ w8, w8 = w7.setCell ⟨g5, rn * 17 + 2, none⟩ (.int .i64 ad) := ⟨_, rfl⟩
                have HX8 : Hid (Own w8 w2.heap.size 31 [.slice up un uc, .slice ip iN ic, .slice pp pn pc, .slice mp mn mc, .slice op on oc, .slice fp fn fc, .slice (some ⟨g5, 0, none⟩) n5 c5, .slice sp sn sc]) := by show Own _ _ _ _; rw [hw8]; exact HX7.out.setOther (p := ⟨g5, rn * 17 + 2, none⟩) (by show g5 ≠ _; omega) _
                have h8 : Below wB.heap.size wB w8 := by rw [hw8]; exact h7.setCell (by show _ ≤ g5; omega) _
                have hz8 : w8.heap.size = w7.heap.size := by rw [hw8]; simp [World.setCell]
                have hz80 : w2.heap.size < w8.heap.size ∧ w.heap.size < w8.heap.size ∧ wB.heap.size ≤ w8.heap.size := by omega
                have HR8 : Hid (RSrc 0 w8.heap.size w8 ⟨⟨up, un, uc⟩, ⟨ip, iN, ic⟩, ⟨pp, pn, pc⟩, ⟨mp, mn, mc⟩, ⟨op, on, oc⟩, ⟨fp, fn, fc⟩, ⟨some ⟨g5, 0, none⟩, n5, c5⟩, ⟨sp, sn, sc⟩⟩ (divS S k r ad)) := by
                  have hk := HS.out.keep (Nat.zero_le lo) (show hi ≤ w8.heap.size by omega) (Agree.of_below h8 (by omega))
                  have hcol8 : Coll RRcp 17 60 0 (fun b => b = w2.heap.size) w8 (.slice (some ⟨g5, 0, none⟩) n5 c5) (((S.recipes ++ [r]).set k { r with to := ad }).set rn { r with frm := ad }) := by rw [hw8]; exact H8.out
                  obtain ⟨p', c', ev, hsl8⟩ := hcol8.slice RRcp.keeps
                  have hlen : (((S.recipes ++ [r]).set k { r with to := ad }).set rn { r with frm := ad }).length = n5 := by rw [List.length_set, List.length_set]; exact HN5.out
                  rw [hlen] at ev hsl8
                  injection ev with e1 _ e2
                  subst e1 e2
                  refine ⟨hk.op, hk.fo, ?_, hk.it, hk.pl⟩
                  have hq := hsl8
                  rw [← HRL.out] at hq
                  exact hq
                clear by7 fz7 e72 bx7 hz8
                rw [← hw8]
                clear hw8 HZ6 HZ7 HX7 HX6 HX5 HX H8 HC5 HR5 HN5 HBX KK HCR3 hw hb4 hb5 h3 h4 h5 h6 h7 g3 hn5 hc5
                have HS8 := Lib.hid (HS.out.keep (Nat.le_refl _) (Nat.le_refl _) (Agree.of_below h8 (by omega)))
                have HC8 := Lib.hid (HC.out.keep RInt.keeps (Nat.le_refl _) (Nat.le_refl _) (Agree.of_below h8 (by omega)))
                have hhi8 : hi ≤ w8.heap.size ∧ hi2 ≤ w8.heap.size := by omega
                have HD := Lib.hid (which_div (i := x3) (p := x4) (d := x5) (c := c) HR.out (by omega : r.frm < ad) (by omega : ad < r.to))
                have HDV := Lib.hid (holeV_div HR.out (by omega : r.frm < ad) (by omega : ad < r.to))
                have HDO := Lib.hid (holeOf_div HR.out (by omega : r.frm < ad) (by omega : ad < r.to))
                have hrlen : (divS S k r ad).recipes.length ≤ 9 := by rw [divS_recipes (lt_of_some HR.out)]; simp; omega
                have bx8 := own_cells (HO.out.below h8 (by omega))
                have call := which_any (item := x3) (plant := x4) (day := x5) HS8.out HC8.out hhi8.1 hhi8.2 (by omega) hx3 hx4 hx5
                go_wp2_with fail
                refine call.mono ?_
                clear call bx8
                rintro e w9 ⟨p9, n9, c9, rfl, hl9, hb9⟩
                have hz9 := hb9.size
                have HL9 := Lib.hid hl9.len
                have by9 := own_cells (HX8.out.below hb9 (by omega))
                have call := which_any (item := x3) (plant := x4) (day := x5) (HR8.out.keep (Nat.le_refl _) (Nat.le_refl _) (Agree.of_below hb9 (Nat.le_refl _))) (HC8.out.keep RInt.keeps (Nat.le_refl _) (Nat.le_refl _) (Agree.of_below hb9 (by omega))) (by omega) (by omega) (by omega) hx3 hx4 hx5
                rw [whichE_div] at call
                clear hl9
                go_wp2_with fail
                refine call.mono ?_
                clear call by9
                rintro e w10 ⟨p10, n10, c10, rfl, hl10, hb10⟩
                have hz10 := hb10.size
                have g10 := hb9.trans (hb10.mono hb9.size)
                have hnn : n9 = n10 := by rw [← HL9.out, ← hl10.len]; exact HD.out.symm
                subst hnn
                have bx10 := own_cells (HO.out.below (h8.trans (g10.mono (by omega))) (by omega))
                have call := hole_any (HS8.out.keep (Nat.le_refl _) (Nat.le_refl _) (Agree.of_below g10 (by omega))) (by omega) (by omega)
                clear hl10 hb9 hb10
                go_wp2_with fail
                refine call.mono ?_
                clear call bx10
                rintro e w11 ⟨v11, rfl, ⟨ph, nh, ch, rfl, hh1, i1, i2, i3, i4⟩, hb11⟩
                have hz11 := hb11.size
                have g11 := g10.trans (hb11.mono g10.size)
                have by11 := own_cells (HX8.out.below g11 (by omega))
                have hz110 : w2.heap.size < w11.heap.size := by omega
                obtain ⟨w12, hw12⟩ : ∃ w12, w12 = w11.alloc (.cells #[.int .i64 (holeV S).item, .int .i64 (holeV S).plant, .int .i64 (holeV S).day, .slice ph nh ch, .int .i64 (holeV S).many] 49) := ⟨_, rfl⟩
                have g12' : Below w11.heap.size w11 w12 := by rw [hw12]; exact (Below.refl _ _).alloc (Nat.le_refl _) _
                have g12 := g11.trans (g12'.mono (by omega))
                have HO12 : Hid (Own w12 w11.heap.size 49 [.int .i64 (holeV S).item, .int .i64 (holeV S).plant, .int .i64 (holeV S).day, .slice ph nh ch, .int .i64 (holeV S).many]) := by show Own _ _ _ _; rw [hw12]; exact Own.new w11 _ _
                have hz12 : w11.heap.size < w12.heap.size := by rw [hw12]; simp
                have call := hole_any (HR8.out.keep (Nat.le_refl _) (Nat.le_refl _) (Agree.of_below g12 (Nat.le_refl _))) (by omega) (by omega)
                rw [HDV.out, HDO.out, allE_div] at call
                have HH1 := Lib.hid (hh1.keep RInt.keeps (Nat.le_refl _) (Nat.le_refl _) (Agree.of_below g12' (Nat.le_refl _)))
                clear hh1 hb11
                go_wp2_with fail
                rw [← hw12]
                clear hw12
                refine call.mono ?_
                clear call by11
                rintro e w13 ⟨v13, rfl, ⟨pk, nk, ck, rfl, hh2, _, _, _, _⟩, hb13⟩
                have hz13 := hb13.size
                have g13 := g12.trans (hb13.mono (by omega))
                have hbf2 := hBB.trans ((h8.trans (g13.mono (by omega))).mono (by omega))
                have by13 := own_cells (HO12.out.below hb13 (by omega))
                have hz131 : w11.heap.size < w13.heap.size := by omega
                obtain ⟨w14, hw14⟩ : ∃ w14, w14 = w13.alloc (.cells #[.int .i64 (holeV S).item, .int .i64 (holeV S).plant, .int .i64 (holeV S).day, .slice pk nk ck, .int .i64 (holeV S).many] 49) := ⟨_, rfl⟩
                have g14' : Below w13.heap.size w13 w14 := by rw [hw14]; exact (Below.refl _ _).alloc (Nat.le_refl _) _
                have hz14 := g14'.size
                have call := sameHole_any (a := holeV S) (b := holeV S) (w := w14) ⟨ph, nh, ch, rfl, HH1.out.keep RInt.keeps (Nat.le_refl _) (Nat.le_refl _) (Agree.of_below (hb13.trans (g14'.mono hb13.size)) (by omega)), i1, i2, i3, i4⟩ ⟨pk, nk, ck, rfl, hh2.keep RInt.keeps (Nat.le_refl _) (Nat.le_refl _) (Agree.of_below g14' (Nat.le_refl _)), i1, i2, i3, i4⟩ (by omega) (by omega)
                have eS : sameHoleB (holeV S) (holeV S) = true := by simp [sameHoleB]
                rw [eS] at call
                have k1 : ((n9 : Int) == (n9 : Int)) = true := by simp
                have k2 : (whichE S c == whichE S c) = true := by simp
                have k3 : ((holeOf S).isSome == (holeOf S).isSome) = true := by simp
                have k4 : (allE S == allE S) = true := by simp
                clear hh2 hb13 eS
                go_wp2_with fail
                rw [← hw14]
                clear hw14
                refine call.mono ?_
                clear call by13
                rintro e w15 ⟨rfl, hb15⟩
                have hbf3 := hbf2.trans ((g14'.trans (hb15.mono (by omega))).mono (by omega))
                clear hb15
                go_wp2_with fail
                go_ret
                exact ⟨rfl, hbf3⟩
end Go.Proofs.Ytpbajggbinljiaa
