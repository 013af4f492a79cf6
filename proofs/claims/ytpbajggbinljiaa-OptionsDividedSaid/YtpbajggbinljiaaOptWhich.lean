/-
  options.Which: the numbers of the recipes that apply ('whichL'), or the error 130.
-/
import Derived.Test.YtpbajggbinljiaaOptChanges
namespace Go.Proofs.Ytpbajggbinljiaa
set_option linter.unusedVariables false
set_option linter.unusedSimpArgs false
set_option linter.unnecessarySimpa false
set_option linter.unusedSectionVars false
open Go.RowKit Go.Shelf
attribute [local go_sem] cell_re frozen_re size_re

/-- a recipe applies -/
def appB (item plant day : Int) (c : List Int) (r : Rcp) : Bool := decide (r.item = item) && decide (r.plant = plant) && decide (r.frm ≤ day) && decide (day < r.to) && holdB r.ifs c
def whichTo (l : List Rcp) (item plant day : Int) (c : List Int) (k : Nat) : List Int := (List.range k).filterMap fun (i : Nat) => if (l[i]?.any (appB item plant day c)) = true then some (Int.ofNat i) else none
def whichL (S : Src) (item plant day : Int) (c : List Int) : List Int := if permB S c then whichTo S.recipes item plant day c S.recipes.length else []
def whichE (S : Src) (c : List Int) : Int := if permB S c then 0 else 130
theorem whichTo_no {l : List Rcp} {item plant day : Int} {c : List Int} {k : Nat} {r : Rcp} (hr : l[k]? = some r) (h : appB item plant day c r = false) : whichTo l item plant day c (k + 1) = whichTo l item plant day c k := by
  simp [whichTo, List.range_succ, hr, h]
theorem whichTo_yes {l : List Rcp} {item plant day : Int} {c : List Int} {k : Nat} {r : Rcp} (hr : l[k]? = some r) (h : appB item plant day c r = true) : whichTo l item plant day c (k + 1) = whichTo l item plant day c k ++ [(k : Int)] := by
  simp [whichTo, List.range_succ, hr, h]
theorem whichTo_len (l : List Rcp) (item plant day : Int) (c : List Int) (k : Nat) : (whichTo l item plant day c k).length ≤ k := by
  unfold whichTo; exact Nat.le_trans (List.length_filterMap_le _ _) (by simp)

set_option maxRecDepth 100000 in
set_option maxHeartbeats 1600000 in
theorem which_any {lo hi lo2 hi2 : Nat} {s : SrcV} {S : Src} {q : Option Addr} {m cap2 : Nat} {c : List Int} {item plant day : Int} {w : World}
    (hs : RSrc lo hi w s S) (hc : SliceOf RInt 1 lo2 hi2 w q m cap2 c) (hhi : hi ≤ w.heap.size) (hhi2 : hi2 ≤ w.heap.size) (hfew : S.recipes.length ≤ 1000000) (hi1 : IsI64 item) (hi2' : IsI64 plant) (hi3 : IsI64 day) :
    Calls Try.prog 22 #[.agg s.cells.toArray, .int .i64 item, .int .i64 plant, .int .i64 day, .slice q m cap2] w (GivesInts2 w (whichL S item plant day c) (whichE S c)) := by
  have hrn := hs.re.nle
  have Hr := Lib.hid hs.re.len
  have hinfo : (Try.prog.info? 3).map (fun i => (i.zero, i.size, i.bytes)) = some (some (.int .i64 0), 1, 8) := by kernel_rfl
  obtain ⟨⟨up, un, uc⟩, ⟨ip, iN, ic⟩, ⟨pp, pn, pc⟩, ⟨mp, mn, mc⟩, ⟨op, on, oc⟩, ⟨fp, fn, fc⟩, ⟨rp, rn, rc⟩, ⟨sp, sn, sc⟩⟩ := s
  dsimp only at hrn Hr
  unfold IsI64 at hi1 hi2' hi3
  have hb0 : ∀ o1, Below w.heap.size w (w.alloc o1) := fun o1 => (Below.refl _ w).alloc (Nat.le_refl _) _
  have call := fun o1 => validC_any (hs.keep (Nat.le_refl _) (Nat.le_refl _) (Agree.of_below (hb0 o1) hhi)) (hc.keep RInt.keeps (Nat.le_refl _) (Nat.le_refl _) (Agree.of_below (hb0 o1) hhi2)) (by simp; omega) (by simp; omega)
  cases hv : permB S c with
  | false =>
    rw [hv] at call
    have Hf := Lib.hid hv
    clear hv
    go_enter Try.func22, Try.ntmps22
    go_wp2_with fail
    refine (call _).mono ?_
    rintro e w1 ⟨rfl, hb⟩
    go_wp2_with fail
    go_ret2
    exact ⟨none, 0, 0, ret_tup2 rfl (congrArg (Value.int .i64) (by rw [whichE, Hf.out]; rfl)), by rw [whichL, Hf.out]; exact slice_nil _ _ _ _ _, (hb0 _).trans (hb.mono (by simp))⟩
  | true =>
    rw [hv] at call
    have Hf := Lib.hid hv
    clear hv
    go_enter Try.func22, Try.ntmps22
    go_wp2_with fail
    refine (call _).mono ?_
    clear call
    rintro e w1 ⟨rfl, hb⟩
    have hbw : Below w.heap.size w w1 := (hb0 _).trans (hb.mono (by simp))
    have b6 : w1.cell? ⟨w.heap.size, 6, none⟩ = some (.slice rp rn rc) := (hb.cell (by simp)).trans (by simp)
    have hsz := hbw.size
    have hsw := hs.keep (Nat.le_refl _) (Nat.le_refl _) (Agree.of_below hbw hhi)
    have hcw := hc.keep RInt.keeps (Nat.le_refl _) (Nat.le_refl _) (Agree.of_below hbw hhi2)
    have hhi' : hi ≤ w1.heap.size := by omega
    have hhi2' : hi2 ≤ w1.heap.size := by omega
    clear hb hb0 hs hc
    go_wp2_with fail
    go_loopw [10, 21] (fun t i wr => ∃ k : Nat, k ≤ rn ∧ i = .int .i64 k ∧ Coll RInt 1 3 w1.heap.size noBlock wr t (whichTo S.recipes item plant day c k) ∧ Below w1.heap.size w1 wr) (fun _ i _ => rn - (intOf i).toNat)
    case atStart => exact ⟨0, Nat.zero_le _, rfl, Coll.nil _ _ _ _ _ _, Below.refl _ _⟩
    case round =>
      obtain ⟨k, hk, rfl, hcol, hb1⟩ := hrel
      have hz1 := hb1.size
      by_cases hlt : k < rn
      · obtain ⟨x, b, off, r, p', n', c', hx, hpe, hbh, hif, i1, i2, i3, i4, hc⟩ := slice_rcp (hsw.re.keep RRcp.keeps (Nat.le_refl _) (Nat.le_refl _) (Agree.of_below hb1 hhi')) hlt
        dsimp only at hpe
        subst hpe
        have hbw2 : b < wr.heap.size := by omega
        have hc := Lib.hid hc
        have Hx := Lib.hid hx
        have hcol0 := fun o => hcol.below RInt.keeps ((Below.refl _ wr).alloc (Nat.le_refl _) o)
        have HI := Lib.hid hif
        clear hx hif hcol
        unfold IsI64 at i1 i2 i3 i4
        by_cases g1 : x.item = item
        · by_cases g2 : x.plant = plant
          · by_cases g3 : x.frm ≤ day
            · by_cases g4 : day < x.to
              · have hbo : ∀ o, Below wr.heap.size wr (wr.alloc o) := fun o => (Below.refl _ wr).alloc (Nat.le_refl _) o
                have call := fun o => hold_any (HI.out.keep RCnd.keeps (Nat.le_refl _) (Nat.le_refl _) (Agree.of_below (hbo o) (by omega))) (hcw.keep RInt.keeps (Nat.le_refl _) (Nat.le_refl _) (Agree.of_below (hb1.trans ((hbo o).mono hz1)) hhi2')) (by simp; omega) (by simp; omega)
                have e1 : (x.item == item) = true := by simpa using g1
                have e2 : (x.plant == plant) = true := by simpa using g2
                cases hh : holdB x.ifs c with
                | false =>
                  rw [hh] at call
                  have HN := Lib.hid (whichTo_no Hx.out (item := item) (plant := plant) (day := day) (c := c) (by simp [appB, hh]))
                  clear hh
                  go_wp2_with (first | ((with_reducible show wpList _ _ _ ({ dst := _, op := Op.load 60 _, type := _, pos := _, after := _, guard := _ } :: _) _ _); refine wpList_load_agg rfl 60 _ rfl rfl Try.isAgg60 Try.sizeOf60 (rcpCells x r p' n' c') rfl hc.out ?_; unfold rcpCells) | ((with_reducible show wpList _ _ _ ({ dst := _, op := Op.store 60 _ _, type := _, pos := _, after := _, guard := _ } :: _) _ _); refine wpList_store_new rfl 60 _ _ rfl rfl rfl [.string r.item, .string r.plant, .int .i64 x.frm, .int .i64 x.to, .slice p' n' c', .slice r.inP r.inN r.inC, .slice r.outP r.outN r.outC, .int .i64 r.reworkN, .int .i64 r.reworkD, .int .i64 r.yieldN, .int .i64 r.yieldD, .int .i64 r.tolN, .int .i64 r.tolD, .int .i64 r.lead, .slice r.runP r.runN r.runC, .int .i64 x.item, .int .i64 x.plant] rfl infoRcp rfl rfl ?_))
                  refine (call _).mono ?_
                  rintro e w2 ⟨rfl, hb2⟩
                  have hz2 := hb2.size
                  simp only [World.size_alloc] at hz2
                  have hcol2 := Lib.hid ((hcol0 _).below RInt.keeps hb2)
                  clear hcol0
                  go_wp2_with fail
                  go_roundw
                  case rel => exact ⟨k + 1, by omega, by go_num, by rw [HN.out]; exact hcol2.out, (hb1.alloc hz1 _).trans (hb2.mono (by simp; omega))⟩
                  case measure => simp [intOf]; omega
                | true =>
                  rw [hh] at call
                  have HN := Lib.hid (whichTo_yes Hx.out (item := item) (plant := plant) (day := day) (c := c) (by simp [appB, g1, g2, g3, g4, hh]))
                  clear hh
                  go_wp2_with (first | ((with_reducible show wpList _ _ _ ({ dst := _, op := Op.load 60 _, type := _, pos := _, after := _, guard := _ } :: _) _ _); refine wpList_load_agg rfl 60 _ rfl rfl Try.isAgg60 Try.sizeOf60 (rcpCells x r p' n' c') rfl hc.out ?_; unfold rcpCells) | ((with_reducible show wpList _ _ _ ({ dst := _, op := Op.store 60 _ _, type := _, pos := _, after := _, guard := _ } :: _) _ _); refine wpList_store_new rfl 60 _ _ rfl rfl rfl [.string r.item, .string r.plant, .int .i64 x.frm, .int .i64 x.to, .slice p' n' c', .slice r.inP r.inN r.inC, .slice r.outP r.outN r.outC, .int .i64 r.reworkN, .int .i64 r.reworkD, .int .i64 r.yieldN, .int .i64 r.yieldD, .int .i64 r.tolN, .int .i64 r.tolD, .int .i64 r.lead, .slice r.runP r.runN r.runC, .int .i64 x.item, .int .i64 x.plant] rfl infoRcp rfl rfl ?_))
                  refine (call _).mono ?_
                  rintro e w2 ⟨rfl, hb2⟩
                  have hz2 := hb2.size
                  simp only [World.size_alloc] at hz2
                  have hcol2 := (hcol0 _).below RInt.keeps hb2
                  have hlt2 := hcol2.lt
                  have hcol3 := fun o => hcol2.below RInt.keeps ((Below.refl _ w2).alloc (Nat.le_refl _) o)
                  have hb3 : Below w1.heap.size w1 w2 := (hb1.alloc hz1 _).trans (hb2.mono (by simp; omega))
                  have hel : ∀ o, RInt w2.heap.size w2.heap.size (w2.alloc o) (k : Int) [.int .i64 (k : Int)] := fun o => ⟨rfl, by unfold IsI64; omega⟩
                  have hdis : ∀ g, u10.ownBlock = some g ∨ noBlock g → g < w2.heap.size ∨ w2.heap.size ≤ g := fun g _ => Nat.lt_or_ge _ _
                  have hone : ∀ u ∈ [Value.int .i64 (k : Int)], u.oneCell' = true := fun u hu => by simp at hu; subst hu; rfl
                  have hx0 : w1.heap.size ≤ w2.heap.size := by omega
                  have hx1 : ∀ o : Obj, w2.heap.size ≤ (w2.alloc o).heap.size := fun o => by simp
                  have hx2 : ∀ o : Obj, w1.heap.size ≤ (w2.alloc o).heap.size := fun o => by simp; omega
                  have hln := whichTo_len S.recipes item plant day c k
                  have hs1 : ((whichTo S.recipes item plant day c k).length + 1) * 8 ≤ 140737488355328 := by have := Hr.out; omega
                  have hs2 : (whichTo S.recipes item plant day c k).length + 1 ≤ maxLen := by unfold maxLen; omega
                  have HLT := Lib.hid hlt2
                  clear hcol0 hcol2 call hlt2 hln
                  go_wp2_with (at_builtin; refine wpList_append_coll rfl _ _ 32 rfl RInt.keeps (hcol3 _) (.int .i64 0) 8 Try.underlying32 hinfo rfl (by decide) rfl ⟨w2.heap.size, 0, none⟩ 1 [.int .i64 (k : Int)] (k : Int) w2.heap.size w2.heap.size rfl (hel _) rfl cell_add hone hx0 (hx1 _) hdis id hs1 hs2 (hx2 _) ?_; rintro v' w4 hc4 hg4)
                  clear hcol3 hel hdis hx1 hx2
                  go_roundw
                  case rel => exact ⟨k + 1, by omega, by go_num, by rw [HN.out]; exact hc4, (hb3.alloc (by omega) _).grown hg4 (by simp; omega) (fun j hj => (HLT.out j hj).1)⟩
                  case measure => simp [intOf]; omega
              · have HN := Lib.hid (whichTo_no Hx.out (item := item) (plant := plant) (day := day) (c := c) (by simp [appB, g4]))
                go_wp2_with (first | ((with_reducible show wpList _ _ _ ({ dst := _, op := Op.load 60 _, type := _, pos := _, after := _, guard := _ } :: _) _ _); refine wpList_load_agg rfl 60 _ rfl rfl Try.isAgg60 Try.sizeOf60 (rcpCells x r p' n' c') rfl hc.out ?_; unfold rcpCells) | ((with_reducible show wpList _ _ _ ({ dst := _, op := Op.store 60 _ _, type := _, pos := _, after := _, guard := _ } :: _) _ _); refine wpList_store_new rfl 60 _ _ rfl rfl rfl [.string r.item, .string r.plant, .int .i64 x.frm, .int .i64 x.to, .slice p' n' c', .slice r.inP r.inN r.inC, .slice r.outP r.outN r.outC, .int .i64 r.reworkN, .int .i64 r.reworkD, .int .i64 r.yieldN, .int .i64 r.yieldD, .int .i64 r.tolN, .int .i64 r.tolD, .int .i64 r.lead, .slice r.runP r.runN r.runC, .int .i64 x.item, .int .i64 x.plant] rfl infoRcp rfl rfl ?_))
                go_roundw
                case rel => exact ⟨k + 1, by omega, by go_num, by rw [HN.out]; exact hcol0 _, hb1.alloc hz1 _⟩
                case measure => simp [intOf]; omega
            · have HN := Lib.hid (whichTo_no Hx.out (item := item) (plant := plant) (day := day) (c := c) (by simp [appB, g3]))
              go_wp2_with (first | ((with_reducible show wpList _ _ _ ({ dst := _, op := Op.load 60 _, type := _, pos := _, after := _, guard := _ } :: _) _ _); refine wpList_load_agg rfl 60 _ rfl rfl Try.isAgg60 Try.sizeOf60 (rcpCells x r p' n' c') rfl hc.out ?_; unfold rcpCells) | ((with_reducible show wpList _ _ _ ({ dst := _, op := Op.store 60 _ _, type := _, pos := _, after := _, guard := _ } :: _) _ _); refine wpList_store_new rfl 60 _ _ rfl rfl rfl [.string r.item, .string r.plant, .int .i64 x.frm, .int .i64 x.to, .slice p' n' c', .slice r.inP r.inN r.inC, .slice r.outP r.outN r.outC, .int .i64 r.reworkN, .int .i64 r.reworkD, .int .i64 r.yieldN, .int .i64 r.yieldD, .int .i64 r.tolN, .int .i64 r.tolD, .int .i64 r.lead, .slice r.runP r.runN r.runC, .int .i64 x.item, .int .i64 x.plant] rfl infoRcp rfl rfl ?_))
              go_roundw
              case rel => exact ⟨k + 1, by omega, by go_num, by rw [HN.out]; exact hcol0 _, hb1.alloc hz1 _⟩
              case measure => simp [intOf]; omega
          · have HN := Lib.hid (whichTo_no Hx.out (item := item) (plant := plant) (day := day) (c := c) (by simp [appB, g2]))
            go_wp2_with (first | ((with_reducible show wpList _ _ _ ({ dst := _, op := Op.load 60 _, type := _, pos := _, after := _, guard := _ } :: _) _ _); refine wpList_load_agg rfl 60 _ rfl rfl Try.isAgg60 Try.sizeOf60 (rcpCells x r p' n' c') rfl hc.out ?_; unfold rcpCells) | ((with_reducible show wpList _ _ _ ({ dst := _, op := Op.store 60 _ _, type := _, pos := _, after := _, guard := _ } :: _) _ _); refine wpList_store_new rfl 60 _ _ rfl rfl rfl [.string r.item, .string r.plant, .int .i64 x.frm, .int .i64 x.to, .slice p' n' c', .slice r.inP r.inN r.inC, .slice r.outP r.outN r.outC, .int .i64 r.reworkN, .int .i64 r.reworkD, .int .i64 r.yieldN, .int .i64 r.yieldD, .int .i64 r.tolN, .int .i64 r.tolD, .int .i64 r.lead, .slice r.runP r.runN r.runC, .int .i64 x.item, .int .i64 x.plant] rfl infoRcp rfl rfl ?_))
            go_roundw
            case rel => exact ⟨k + 1, by omega, by go_num, by rw [HN.out]; exact hcol0 _, hb1.alloc hz1 _⟩
            case measure => simp [intOf]; omega
        · have HN := Lib.hid (whichTo_no Hx.out (item := item) (plant := plant) (day := day) (c := c) (by simp [appB, g1]))
          go_wp2_with (first | ((with_reducible show wpList _ _ _ ({ dst := _, op := Op.load 60 _, type := _, pos := _, after := _, guard := _ } :: _) _ _); refine wpList_load_agg rfl 60 _ rfl rfl Try.isAgg60 Try.sizeOf60 (rcpCells x r p' n' c') rfl hc.out ?_; unfold rcpCells) | ((with_reducible show wpList _ _ _ ({ dst := _, op := Op.store 60 _ _, type := _, pos := _, after := _, guard := _ } :: _) _ _); refine wpList_store_new rfl 60 _ _ rfl rfl rfl [.string r.item, .string r.plant, .int .i64 x.frm, .int .i64 x.to, .slice p' n' c', .slice r.inP r.inN r.inC, .slice r.outP r.outN r.outC, .int .i64 r.reworkN, .int .i64 r.reworkD, .int .i64 r.yieldN, .int .i64 r.yieldD, .int .i64 r.tolN, .int .i64 r.tolD, .int .i64 r.lead, .slice r.runP r.runN r.runC, .int .i64 x.item, .int .i64 x.plant] rfl infoRcp rfl rfl ?_))
          go_roundw
          case rel => exact ⟨k + 1, by omega, by go_num, by rw [HN.out]; exact hcol0 _, hb1.alloc hz1 _⟩
          case measure => simp [intOf]; omega
      · have hkr : k = rn := by omega
        subst hkr
        have HC := Lib.hid hcol
        clear hcol hsw
        go_wp2_with fail
        go_ret2
        obtain ⟨p, cap, hv, hsl⟩ := HC.out.slice RInt.keeps
        have e1 : whichL S item plant day c = whichTo S.recipes item plant day c k := by rw [whichL, Hf.out, if_pos rfl, Hr.out]
        have e2 : whichE S c = 0 := by rw [whichE, Hf.out]; rfl
        exact ⟨p, _, cap, ret_tup2 hv (congrArg (Value.int .i64) e2.symm), by rw [e1]; exact hsl.keep RInt.keeps (by omega) (Nat.le_refl _) (Agree.refl _ _ _), hbw.trans (hb1.mono hsz)⟩
end Go.Proofs.Ytpbajggbinljiaa
