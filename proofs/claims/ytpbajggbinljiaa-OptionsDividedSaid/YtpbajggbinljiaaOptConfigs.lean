/-
  options.configs: the iterator it hands back yields 'allL', one configuration after the other, each in new memory.
-/
import Derived.Test.YtpbajggbinljiaaOptNext
import Derived.Test.YtpbajggbinljiaaOptIter
namespace Go.Proofs.Ytpbajggbinljiaa
set_option linter.unusedVariables false
set_option linter.unusedSimpArgs false
set_option linter.unnecessarySimpa false
set_option linter.unusedSectionVars false
open Go.RowKit Go.Shelf
attribute [local go_sem] Oper.semAt_some

theorem wide_fn (f : FuncId) : Fence.wide.fn f = True := rfl
theorem wide_depth : Fence.wide.depth = none := rfl
attribute [local go_sem] wide_fn wide_depth
theorem grown_of_below {w w' : World} (h : Below w.heap.size w w') (row : Option Nat) : w.grownBy w' row := ⟨h.os, h.tape, h.output, h.size, fun k hk _ => h.block k hk⟩
theorem Own.grown {w w' : World} {g : Nat} {e : TypeId} {xs : List Value} (h : Own w g e xs) (hb : Below w.heap.size w w') : Own w' g e xs := h.below hb h.lt
theorem grown_set (w : World) (g j : Nat) (v : Value) : w.grownBy (w.setCell ⟨g, j, none⟩ v) (some g) :=
  ⟨rfl, rfl, rfl, by simp, fun k _ hk => Below.heap_setCell _ _ _ _ (fun e => hk (by rw [e]))⟩
theorem Own.intsI {w : World} {g : Nat} {l : List Int} (h : Own w g 3 (l.map (Value.int .i64))) (hw : ∀ x ∈ l, 0 ≤ x ∧ x ≤ 3) (hl : l.length ≤ 6) : SliceOf RInt 1 0 w.heap.size w (some ⟨g, 0, none⟩) l.length l.length l :=
  h.ints (by omega) (Nat.zero_le _) h.lt (fun x hx => ⟨by have := hw x hx; omega, by have := hw x hx; omega⟩)

theorem zero_set {cs : List Int} {r on : Nat} {x : Int} (hx : cs[r]? = some x) (hr : r < on) (hl : cs.length = on) :
    ((cs.take (r + 1) ++ List.replicate (on - (r + 1)) 0).map (Value.int .i64)).set r (.int .i64 0) = (cs.take r ++ List.replicate (on - r) 0).map (Value.int .i64) := by
  rw [← List.map_set, take_succ_some hx, List.append_assoc, List.set_append_right _ _ (by simp; omega)]
  have h1 : r - (cs.take r).length = 0 := by simp; omega
  rw [h1, show on - r = (on - (r + 1)) + 1 by omega, List.replicate_succ]
  rfl
theorem next_set {cs : List Int} {r on : Nat} {x y : Int} (hx : cs[r]? = some x) (hl : cs.length = on) :
    ((cs.take (r + 1) ++ List.replicate (on - (r + 1)) 0).map (Value.int .i64)).set r (.int .i64 y) = (cs.take r ++ y :: List.replicate (on - (r + 1)) 0).map (Value.int .i64) := by
  have hlt := lt_of_some hx
  rw [← List.map_set, take_succ_some hx, List.append_assoc, List.set_append_right _ _ (by simp; omega)]
  have h1 : r - (cs.take r).length = 0 := by simp; omega
  rw [h1]
  rfl

set_option maxRecDepth 100000 in
set_option maxHeartbeats 1600000 in
theorem configs1_any {lo hi n0 C box : Nat} {s : SrcV} {S : Src} {W : World} (hs : RSrc lo hi W s S) (hhi : hi ≤ n0) (hn0 : n0 ≤ W.heap.size) (hv : validB S = true) (hbox : box < n0)
    (hbx : ∀ j, W.cell? ⟨box, j, none⟩ = s.cells[j]?) (hC : C ≤ W.heap.size) : SeqP Try.prog 40 #[.pointer (some ⟨box, 0, none⟩)] n0 (ElL C) (fun xs => xs = allL S) (fun _ => True) 4096 W := by
  intro l J Jx hJ hJx hY h0
  have hon := hs.op.nle
  have Ho := Lib.hid hs.op.len
  have Hv := Lib.hid hv
  obtain ⟨⟨up, un, uc⟩, ⟨ip, iN, ic⟩, ⟨pp, pn, pc⟩, ⟨mp, mn, mc⟩, ⟨op, on, oc⟩, ⟨fp, fn, fc⟩, ⟨rp, rn, rc⟩, ⟨sp, sn, sc⟩⟩ := s
  dsimp only [SrcV.cells] at hon Ho hbx
  have hon6 : on ≤ 6 := by rw [← Ho.out]; exact validB_le hv
  have hmk := run_make_row' (P := Try.prog) 32 3 (.int .i64 0) 8 Try.underlying32 (by kernel_rfl) rfl .i64 .i64 on (by omega) (by omega)
  have b0 := (hbx 0).trans rfl
  have b1 := (hbx 1).trans rfl
  have b2 := (hbx 2).trans rfl
  have b3 := (hbx 3).trans rfl
  have b4 := (hbx 4).trans rfl
  have b5 := (hbx 5).trans rfl
  have b6 := (hbx 6).trans rfl
  have b7 := (hbx 7).trans rfl
  have hpW : From W.heap.size (some W.heap.size) := fun k e => by cases e; exact Nat.le_refl _
  have hJ0 : J (some W.heap.size) [] (W.alloc (.cells (madeCells #[Value.int .i64 0] on) 3)) :=
    hJ _ _ _ _ hpW (h0 _ hpW) (grown_of_below ((Below.refl _ W).alloc (Nat.le_refl _) _) _)
  have hi0 : Own (W.alloc (.cells (madeCells #[Value.int .i64 0] on) 3)) W.heap.size 3 ((List.replicate on (0 : Int)).map (Value.int .i64)) := by rw [List.map_replicate]; exact Own.made _ _ _ _
  have HHJ := Lib.hid hJ; have HHJx := Lib.hid hJx; have HHY := Lib.hid hY; have HJ0 := Lib.hid hJ0; have HI0 := Lib.hid hi0; have HS := Lib.hid hs
  clear hJ hJx hY h0 hv hJ0 hi0 hs hbx
  refine callsIn_of_wp Try.func40 rfl trivial ?_ rfl
  simp only [Try.ntmps40, List.size_toArray, List.length_cons, List.length_nil, Nat.reduceAdd, Nat.reduceSub, Array.replicate_succ, Array.replicate_zero, List.push_toArray, List.append_toArray, List.nil_append, List.cons_append]
  gi_wp2
  gi_loopg [] (4 ^ on - codeN (List.replicate on 0)) (fun k wr => ∃ cs : List Int, Hid (k = 4 ^ on - codeN cs) ∧ Hid (Cfg S cs) ∧ Hid (Own wr W.heap.size 3 (cs.map (Value.int .i64))) ∧ Hid (J (some W.heap.size) (allUpto S (codeN cs)) wr) ∧ Hid (Below n0 W wr))
  case atStart =>
    refine ⟨_, rfl, ?_, HI0.out, ?_, (Below.refl _ W).alloc hn0 _⟩
    · rw [← Ho.out]; exact Cfg.zero Hv.out
    · rw [codeN_zero, allUpto_zero]; exact HJ0.out
  case round =>
    obtain ⟨cs, Hk, Hc, HO, HJ, HB⟩ := hrel
    have hz := HO.out.lt
    have hsz := HB.out.size
    have hcl : cs.length = on := by rw [Hc.out.len, Ho.out]
    have hsl := (HO.out.intsI (Hc.out.small Hv.out) (by omega))
    rw [hcl] at hsl
    have call := permitted_any (HS.out.keep (Nat.le_refl _) (Nat.le_refl _) (Agree.of_below HB.out hhi)) hsl (by omega) (Nat.le_refl _)
    have bc : ∀ j, wr.cell? ⟨box, j, none⟩ = W.cell? ⟨box, j, none⟩ := fun j => HB.out.cell (by show box < _; omega)
    gi_upto_region 1 with fail
    gi_cut [18] from 9 (fun s18 wc => ∃ b : Bool, s18 = .bool b ∧ Hid (b = true → Jx (some W.heap.size) (allUpto S (codeN cs + 1)) wc) ∧ Hid (b = false → J (some W.heap.size) (allUpto S (codeN cs + 1)) wc ∧ Own wc W.heap.size 3 (cs.map (Value.int .i64)) ∧ Below n0 W wc))
    case first =>
      cases hp : anyB S.forbids cs with
      | true =>
        rw [hp] at call
        have Hf := Lib.hid (Hc.out.no Hv.out hp)
        clear hp
        gi_wp2
        refine (callsIn_wide.2 call).mono ?_
        rintro e w1 ⟨rfl, hb⟩
        gi_wp2
        gi_meet
        case rel => exact ⟨false, rfl, nofun, fun _ => ⟨by rw [Hf.out]; exact HHJ.out _ _ _ _ hpW HJ.out (grown_of_below hb _), HO.out.grown hb, HB.out.trans (hb.mono (by omega))⟩⟩
      | false =>
        rw [hp] at call
        have Hf := Lib.hid (Hc.out.yes Hv.out hp)
        clear hp
        gi_wp2
        refine (callsIn_wide.2 call).mono ?_
        rintro e w1 ⟨rfl, hb⟩
        have hO1 := HO.out.grown hb
        have hsl1 := hO1.intsI (Hc.out.small Hv.out) (by omega)
        rw [hcl] at hsl1
        have hb1s := hb.size
        gi_wp2
        refine (callsIn_wide.2 (clone_any hsl1 (Nat.le_refl _) (by omega) (fun x hx => ⟨by have := Hc.out.small Hv.out x hx; omega, by have := Hc.out.small Hv.out x hx; omega⟩))).mono ?_
        rintro e w2 ⟨q, m, c, rfl, hsl2, hb2⟩
        have hb2s := hb2.size
        have hb12 := hb.trans (hb2.mono hb1s)
        obtain ⟨fn, tmps, assign, body, hy, hR⟩ := HHY.out (some W.heap.size) (allUpto S (codeN cs)) cs wr w2 #[.slice q m c] hpW (fun k e => by cases e; omega) HJ.out (grown_of_below hb12 _) (allUpto_lt Hv.out Hc.out)
          ⟨_, w1.heap.size, w2.heap.size, rfl, ⟨q, m, c, rfl, hsl2⟩, by omega, hb1s, Nat.le_refl _, fun k e => by cases e; left; omega⟩
        gi_wp2
        refine hR.mono ?_
        rintro e w3 (⟨rfl, hJ3, hk3⟩ | ⟨rfl, hJx3⟩)
        · gi_wp2
          gi_meet
          case rel => exact ⟨false, rfl, nofun, fun _ => ⟨by rw [Hf.out]; exact hJ3, (hO1.grown hb2).of_block (hk3.2 _ rfl (by omega)), (HB.out.trans (hb12.mono (by omega))).trans hk3.1⟩⟩
        · gi_wp2
          gi_meet
          case rel => exact ⟨true, rfl, fun _ => by rw [Hf.out]; exact hJx3, nofun⟩
    case rest =>
      clear call bc hsl
      obtain ⟨b, hb18, HT, HF⟩ := hcut
      cases b with
      | true =>
        subst hb18
        gi_wp2
        refine bodyPost_ret (results_none rfl _ _ _) rfl ?_
        exact ⟨⟨_, rfl⟩, .inr ⟨some W.heap.size, hpW, _, HT.out trivial⟩⟩
      | false =>
        subst hb18
        obtain ⟨hJ1, hO1, hB1⟩ := HF.out rfl
        have HJ1 := Lib.hid hJ1; have HO1 := Lib.hid hO1; have HB1 := Lib.hid hB1
        clear hJ1 hO1 hB1 HT HF HJ HO HB hz hsz
        gi_wp2
        gi_loopw [4] (fun i wr => ∃ r : Nat, i = .int .i64 ((r : Int) - 1) ∧ r ≤ on ∧ Hid (TopFrom S cs r) ∧ Hid (Own wr W.heap.size 3 ((cs.take r ++ List.replicate (on - r) 0).map (Value.int .i64))) ∧ Hid (J (some W.heap.size) (allUpto S (codeN cs + 1)) wr) ∧ Hid (Below n0 W wr)) (fun i _ => (intOf i + 1).toNat)
        case atStart =>
          refine ⟨on, rfl, Nat.le_refl _, fun j y n hj hy => ?_, ?_, HJ1.out, HB1.out⟩
          · have := lt_of_some hy; omega
          · have := HO1.out
            rw [← hcl, List.take_length, Nat.sub_self, List.replicate_zero, List.append_nil]; exact this
        case round =>
          obtain ⟨r, rfl, hr, HTop, HOr, HJr, HBr⟩ := hrel
          clear HJ1 HO1 HB1
          have hz := HOr.out.lt
          have hsz := HBr.out.size
          have bc : ∀ j, wr.cell? ⟨box, j, none⟩ = W.cell? ⟨box, j, none⟩ := fun j => HBr.out.cell (by show box < _; omega)
          match r, hr, HTop, HOr with
          | 0, hr, HTop, HOr =>
            have Hlast := Lib.hid (last_ok Hv.out Hc.out HTop.out)
            gi_upto_region 3 with fail
            gi_quiet (fail)
            gi_wp2
            refine bodyPost_ret (results_none rfl _ _ _) rfl ?_
            exact ⟨⟨_, rfl⟩, .inl ⟨some W.heap.size, _, hpW, rfl, by rw [Hlast.out]; exact HHJ.out _ _ _ _ hpW HJr.out (grown_of_below (below_drewN (Below.refl _ _) _) _)⟩⟩
          | r + 1, hr, HTop, HOr =>
            have e1 : ((r + 1 : Nat) : Int) - 1 = (r : Int) := by omega
            rw [e1]
            obtain ⟨x, hx⟩ : ∃ x, cs[r]? = some x := ⟨_, List.getElem?_eq_getElem (by omega)⟩
            obtain ⟨y, b2, o2, nm, p', c', hy, hp, _, hb2, y1, d0, d1⟩ := slice_opt (HS.out.op.keep ROpt.keeps (Nat.le_refl _) (Nat.le_refl _) (Agree.of_below HBr.out hhi)) (show r < on by omega)
            dsimp only at hp
            subst hp
            have hcell : wr.cell? ⟨W.heap.size, r, none⟩ = some (.int .i64 x) := HOr.out.cell (by rw [List.getElem?_map, List.getElem?_append_left (by simp; omega), List.getElem?_take, if_pos (by omega), hx]; rfl)
            have hfz := HOr.out.frozen r
            have hxr := Hc.out.small Hv.out x (List.mem_of_getElem? hx)
            have hyr := validB_opt Hv.out hy
            by_cases g : x + 1 = (y : Int)
            · have g' : (x == (y : Int) - 1) = true := by simp; omega
              have HT2 := Lib.hid (HTop.out.step hx hy g)
              have HO2 : ∀ m, Hid (Own ((wr.drewN m).setCell ⟨W.heap.size, r, none⟩ (.int .i64 0)) W.heap.size 3 ((cs.take r ++ List.replicate (on - r) 0).map (Value.int .i64))) := fun m => by
                have := (HOr.out.drewN m).set r (.int .i64 0)
                rw [zero_set hx (by omega) (by omega)] at this
                exact this
              have Hx := Lib.hid hx; have Hy := Lib.hid hy
              clear hx hy g e1
              gi_upto_region 3 with fail
              gi_quiet (fail)
              gi_wp2
              go_roundw
              case rel => exact ⟨r, rfl, by omega, HT2.out, (HO2 _).out, HHJ.out _ _ _ _ hpW HJr.out ((grown_of_below (below_drewN (Below.refl _ _) _) _).trans (grown_set _ _ _ _)), (below_drewN HBr.out _).setCell (p := ⟨W.heap.size, r, none⟩) hn0 _⟩
              case measure => simp [intOf]
            · have g' : (x == (y : Int) - 1) = false := by simp; omega
              have Hn := Lib.hid (next_ok Hv.out Hc.out HTop.out hx hy g)
              rw [hcl] at Hn
              have HO2 : ∀ m, Hid (Own ((wr.drewN m).setCell ⟨W.heap.size, r, none⟩ (.int .i64 (x + 1))) W.heap.size 3 ((cs.take r ++ (x + 1) :: List.replicate (on - (r + 1)) 0).map (Value.int .i64))) := fun m => by
                have := (HOr.out.drewN m).set r (.int .i64 (x + 1))
                rw [next_set hx (by omega)] at this
                exact this
              have hge : ((r : Int) < 0) = False := by simp
              have Hx := Lib.hid hx; have Hy := Lib.hid hy
              clear hx hy g e1
              gi_upto_region 3 with fail
              gi_quiet (fail)
              gi_wp2
              gi_roundg (4 ^ on - codeN (cs.take r ++ (x + 1) :: List.replicate (on - (r + 1)) 0))
              case rel => exact ⟨_, rfl, Hn.out.1, (HO2 _).out, by show J _ _ _; rw [Hn.out.2.2]; exact HHJ.out _ _ _ _ hpW HJr.out ((grown_of_below (below_drewN (Below.refl _ _) _) _).trans (grown_set _ _ _ _)), (below_drewN HBr.out _).setCell (p := ⟨W.heap.size, r, none⟩) hn0 _⟩
              case measure =>
                have k1 := Hn.out.2.1
                have k2 := Hn.out.1.code_lt Hv.out
                rw [Ho.out] at k2
                have k3 := Hk.out
                omega
end Go.Proofs.Ytpbajggbinljiaa
