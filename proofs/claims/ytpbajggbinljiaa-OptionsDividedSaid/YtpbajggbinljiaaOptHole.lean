/-
  options.Hole: the first case, by place, day and configuration, at which not just one recipe applies ('holeOf').
-/
import Derived.Test.YtpbajggbinljiaaOptWhich
import Derived.Test.YtpbajggbinljiaaOptAll
namespace Go.Proofs.Ytpbajggbinljiaa
set_option linter.unusedVariables false
set_option linter.unusedSimpArgs false
set_option linter.unnecessarySimpa false
set_option linter.unusedSectionVars false
open Go.RowKit Go.Shelf
attribute [local go_sem] cell_re frozen_re size_re

/-- not just one recipe applies -/
def badB (S : Src) (p : Int × Int) (d : Int) (c : List Int) : Bool := decide ((whichL S p.1 p.2 d c).length ≠ 1)
def holeC (S : Src) (p : Int × Int) (d : Int) : Option ((Int × Int) × Int × List Int) := ((allL S).find? (badB S p d)).map fun c => (p, d, c)
def holeD (S : Src) (p : Int × Int) : Option ((Int × Int) × Int × List Int) := (changesL S p).findSome? (holeC S p)
def holeOf (S : Src) : Option ((Int × Int) × Int × List Int) := (placesL S).findSome? (holeD S)
/-- a hole -/
structure HoleV where
  item : Int
  plant : Int
  day : Int
  config : List Int
  many : Int
def holeV (S : Src) : HoleV := match holeOf S with
  | some (p, d, c) => ⟨p.1, p.2, d, c, (whichL S p.1 p.2 d c).length⟩
  | none => ⟨0, 0, 0, [], 0⟩
def RHole (lo hi : Nat) (w : World) (v : Value) (h : HoleV) : Prop := ∃ p n cap, v = .agg #[.int .i64 h.item, .int .i64 h.plant, .int .i64 h.day, .slice p n cap, .int .i64 h.many] ∧ SliceOf RInt 1 lo hi w p n cap h.config ∧ IsI64 h.item ∧ IsI64 h.plant ∧ IsI64 h.day ∧ IsI64 h.many
def GivesHole (w : World) (h : HoleV) (ok : Bool) (ec : Int) (e : Ending) (w' : World) : Prop :=
  ∃ v, e = .returned (.tuple #[v, .bool ok, .int .i64 ec]) ∧ RHole w.heap.size w'.heap.size w' v h ∧ Below w.heap.size w w'

theorem findSome_step {α β : Type} {f : α → Option β} {l : List α} {k : Nat} {x : α} (hx : l[k]? = some x) (h : f x = none) (hk : (l.take k).findSome? f = none) : (l.take (k + 1)).findSome? f = none := by
  rw [take_succ_some hx, List.findSome?_append, hk]; simp [h]
theorem findSome_hit {α β : Type} {f : α → Option β} {l : List α} {k : Nat} {x : α} {y : β} (hx : l[k]? = some x) (h : f x = some y) (hk : (l.take k).findSome? f = none) : l.findSome? f = some y := by
  have e : l = l.take k ++ x :: l.drop (k + 1) := by
    have hlt := lt_of_some hx
    rw [List.getElem?_eq_getElem hlt] at hx
    injection hx with hx
    rw [← hx, ← List.drop_eq_getElem_cons hlt, List.take_append_drop]
  rw [e, List.findSome?_append, hk]; simp [h]
theorem slice_place {lo hi : Nat} {w : World} {q : Option Addr} {m c : Nat} {l : List (Int × Int)} (h : SliceOf RPlace 2 lo hi w q m c l) {k : Nat} (hk : k < m) :
    ∃ (x y : Int) (b off : Nat), l[k]? = some (x, y) ∧ q = some ⟨b, off, none⟩ ∧ b < hi ∧ OkP (x, y) ∧ w.cell? ⟨b, off + k * 2, none⟩ = some (.int .i64 x) ∧ w.cell? ⟨b, off + k * 2 + 1, none⟩ = some (.int .i64 y) := by
  obtain ⟨⟨x, y⟩, b, off, vs, hx, hp, h1, h2, ⟨rfl, hr⟩, _, hc⟩ := slice_elem h hk
  exact ⟨x, y, b, off, hx, hp, h2, hr, hc 0 _ rfl, hc 1 _ rfl⟩

theorem cell_news (w : World) (xs : Array Value) (t : TypeId) (j : Nat) : (w.alloc (.cells xs t)).cell? ⟨w.heap.size, j, none⟩ = xs[j]? := by simp
theorem frozen_news (w : World) (xs : Array Value) (t : TypeId) (j : Nat) : (w.alloc (.cells xs t)).frozen? ⟨w.heap.size, j, none⟩ = false := by simp
theorem results_cell3 {fn : Func} {p u v : Tmp} {ty : TypeId} (h : fn.results = #[.cell p ty, .tmp u, .tmp v]) (tmps : Array Value) (P : Program) (w : World) :
    (results fn tmps).run P w = ((asAddr (tmps.getD p undef)).run P w).andThen fun a w₁ => ((loadVar ty a).run P w₁).andThen fun x w₂ => .ok (.tuple #[x, tmps.getD u undef, tmps.getD v undef]) w₂ := by
  simp only [results, h]
  simp [Sem.run_bind, Result.andThen]

theorem hole_results {tmps : Array Value} {W : World} {b : Nat} {v0 v1 v2 v3 v4 : Value} (h2 : tmps.getD 2 undef = .pointer (some ⟨b, 0, none⟩)) (hO : Own W b 49 [v0, v1, v2, v3, v4]) :
    (results Try.f20 tmps).run Try.prog W = .ok (.tuple #[.agg #[v0, v1, v2, v3, v4], tmps.getD 3 undef, tmps.getD 4 undef]) W := by
  rw [results_cell3 (p := 2) (u := 3) (v := 4) (ty := 49) rfl, h2]
  have h := run_loadAt_agg (P := Try.prog) (w := W) (t := 49) (b := b) (off := 0) Try.isAgg49 Try.sizeOf49 [v0, v1, v2, v3, v4] rfl (fun j u hj => by rw [Nat.zero_add]; exact hO.cell hj)
  simp only [Instr.loadAt, Instr.sureAddr, Sem.run_bind, Sem.run_pure, Result.andThen] at h
  simp only [asAddr, Sem.run_pure, Result.andThen, h]

theorem cell_under {B : Nat} {W W' : World} {b j : Nat} {v : Value} (hb : Below B W W') (h : b < B) (hc : W.cell? ⟨b, j, none⟩ = some v) : W'.cell? ⟨b, j, none⟩ = some v := (hb.cell (p := ⟨b, j, none⟩) h).trans hc
theorem i64_0 : IsI64 0 := ⟨by omega, by omega⟩
theorem holeOf_invalid {S : Src} (h : validB S = false) : holeOf S = none := by
  have e : allL S = [] := by rw [allL, h]; rfl
  unfold holeOf
  rw [List.findSome?_eq_none_iff]
  intro p _
  unfold holeD
  rw [List.findSome?_eq_none_iff]
  intro d _
  simp [holeC, e]

set_option maxRecDepth 100000 in
set_option maxHeartbeats 1600000 in
theorem hole_any {lo hi : Nat} {s : SrcV} {S : Src} {w : World} (hs : RSrc lo hi w s S) (hhi : hi ≤ w.heap.size) (hfew : S.recipes.length ≤ 1000) :
    Calls Try.prog 20 #[.agg s.cells.toArray] w (GivesHole w (holeV S) (holeOf S).isSome (allE S)) := by
  obtain ⟨⟨up, un, uc⟩, ⟨ip, iN, ic⟩, ⟨pp, pn, pc⟩, ⟨mp, mn, mc⟩, ⟨op, on, oc⟩, ⟨fp, fn, fc⟩, ⟨rp, rn, rc⟩, ⟨sp, sn, sc⟩⟩ := s
  have hb0 : ∀ o1 o2, Below w.heap.size w ((w.alloc o1).alloc o2) := fun o1 o2 => ((Below.refl _ w).alloc (Nat.le_refl _) _).alloc (by simp) _
  have call := fun o1 o2 => valid_any (hs.keep (Nat.le_refl _) (Nat.le_refl _) (Agree.of_below (hb0 o1 o2) hhi)) (by simp; omega)
  cases hv : validB S with
  | false =>
    rw [hv] at call
    have Hf := Lib.hid hv
    clear hv
    go_enter Try.func20, Try.ntmps20
    go_wp2_with fail
    go_step3
    go_wp2_with fail
    refine (call _ _).mono ?_
    rintro e w1 ⟨rfl, hb⟩
    have hbw : Below w.heap.size w w1 := (hb0 _ _).trans (hb.mono (by simp; omega))
    have bx : ∀ j, w1.cell? ⟨w.heap.size, j, none⟩ = [.slice up un uc, .slice ip iN ic, .slice pp pn pc, .slice mp mn mc, .slice op on oc, .slice fp fn fc, .slice rp rn rc, .slice sp sn sc][j]? := fun j => (hb.cell (p := ⟨w.heap.size, j, none⟩) (by simp; omega)).trans ((World.cell?_of_block (a := ⟨w.heap.size, j, none⟩) (Below.heap_alloc _ _ _ (by simp))).trans (by simp))
    have hO : Own w1 (w.heap.size + 1) 49 [.int .i64 0, .int .i64 0, .int .i64 0, .slice none 0 0, .int .i64 0] := by
      have := Own.new (w.alloc (.cells #[.slice up un uc, .slice ip iN ic, .slice pp pn pc, .slice mp mn mc, .slice op on oc, .slice fp fn fc, .slice rp rn rc, .slice sp sn sc] 31)) [.int .i64 0, .int .i64 0, .int .i64 0, .slice none 0 0, .int .i64 0] 49
      rw [World.size_alloc] at this
      exact this.below hb (by simp)
    have z0 := hO.cell (j := 0) rfl
    have z1 := hO.cell (j := 1) rfl
    have z2 := hO.cell (j := 2) rfl
    have z3 := hO.cell (j := 3) rfl
    have z4 := hO.cell (j := 4) rfl
    have fz := hO.frozen
    have hsz : w.heap.size + 2 ≤ w1.heap.size := by have := hb.size; simp at this; omega
    have HO := Lib.hid hO
    clear hb hb0 hO
    go_wp2_with fail
    rw [Exit.noGoto_ret]
    refine bodyPost_ret (hole_results rfl ((((((HO.out.set 0 _).set 1 _).set 2 _).set 3 _).set 4 _))) rfl ?_
    have e0 := holeOf_invalid Hf.out
    have e1 : (holeOf S).isSome = false := by rw [e0]; rfl
    have e2 : allE S = 130 := by rw [allE, Hf.out]; rfl
    have e3 : holeV S = ⟨0, 0, 0, [], 0⟩ := by rw [holeV, e0]
    refine ⟨.agg #[.int .i64 0, .int .i64 0, .int .i64 0, .slice none 0 0, .int .i64 0], by rw [e1, e2]; rfl, ?_, ?_⟩
    · rw [e3]
      exact ⟨none, 0, 0, rfl, slice_nil _ _ _ _ _, i64_0, i64_0, i64_0, i64_0⟩
    · exact ((((hbw.setCell (p := ⟨w.heap.size + 1, 0, none⟩) (by simp) _).setCell (p := ⟨w.heap.size + 1, 1, none⟩) (by simp) _).setCell (p := ⟨w.heap.size + 1, 2, none⟩) (by simp) _).setCell (p := ⟨w.heap.size + 1, 3, none⟩) (by simp) _).setCell (p := ⟨w.heap.size + 1, 4, none⟩) (by simp) _
  | true =>
    rw [hv] at call
    have Hv := Lib.hid hv
    clear hv
    go_enter Try.func20, Try.ntmps20
    go_wp2_with fail
    go_step3
    go_wp2_with fail
    refine (call _ _).mono ?_
    clear call
    rintro e w1 ⟨rfl, hb⟩
    have hbw : Below w.heap.size w w1 := (hb0 _ _).trans (hb.mono (by simp; omega))
    have bx : ∀ j, w1.cell? ⟨w.heap.size, j, none⟩ = [.slice up un uc, .slice ip iN ic, .slice pp pn pc, .slice mp mn mc, .slice op on oc, .slice fp fn fc, .slice rp rn rc, .slice sp sn sc][j]? := fun j => (hb.cell (p := ⟨w.heap.size, j, none⟩) (by simp; omega)).trans ((World.cell?_of_block (a := ⟨w.heap.size, j, none⟩) (Below.heap_alloc _ _ _ (by simp))).trans (by simp))
    have hO : Own w1 (w.heap.size + 1) 49 [.int .i64 0, .int .i64 0, .int .i64 0, .slice none 0 0, .int .i64 0] := by
      have := Own.new (w.alloc (.cells #[.slice up un uc, .slice ip iN ic, .slice pp pn pc, .slice mp mn mc, .slice op on oc, .slice fp fn fc, .slice rp rn rc, .slice sp sn sc] 31)) [.int .i64 0, .int .i64 0, .int .i64 0, .slice none 0 0, .int .i64 0] 49
      rw [World.size_alloc] at this
      exact this.below hb (by simp)
    have z0 := hO.cell (j := 0) rfl
    have z1 := hO.cell (j := 1) rfl
    have z2 := hO.cell (j := 2) rfl
    have z3 := hO.cell (j := 3) rfl
    have z4 := hO.cell (j := 4) rfl
    have fz := hO.frozen
    have hsz : w.heap.size + 2 ≤ w1.heap.size := by have := hb.size; simp at this; omega
    have HO0 := hO
    have hsw := hs.keep (Nat.le_refl _) (Nat.le_refl _) (Agree.of_below hbw hhi)
    clear hb hb0 hO hs
    have HO := Lib.hid HO0
    clear HO0
    go_wp2_with fail
    refine (configs_any ⟨⟨up, un, uc⟩, ⟨ip, iN, ic⟩, ⟨pp, pn, pc⟩, ⟨mp, mn, mc⟩, ⟨op, on, oc⟩, ⟨fp, fn, fc⟩, ⟨rp, rn, rc⟩, ⟨sp, sn, sc⟩⟩ w1).mono ?_
    rintro e w2 ⟨rfl, hw2⟩
    have hb2 : Below w1.heap.size w1 w2 := by rw [hw2]; exact (Below.refl _ w1).alloc (Nat.le_refl _) _
    have hbx2 : ∀ j, w2.cell? ⟨w1.heap.size, j, none⟩ = (SrcV.cells ⟨⟨up, un, uc⟩, ⟨ip, iN, ic⟩, ⟨pp, pn, pc⟩, ⟨mp, mn, mc⟩, ⟨op, on, oc⟩, ⟨fp, fn, fc⟩, ⟨rp, rn, rc⟩, ⟨sp, sn, sc⟩⟩)[j]? := fun j => by rw [hw2]; simp
    have hz2 : w2.heap.size = w1.heap.size + 1 := by rw [hw2]; simp
    clear hw2
    clear z0 z1 z2 z3 z4 fz
    go_wp2_with fail
    refine (collectL_any (hsw.keep (Nat.le_refl _) (Nat.le_refl _) (Agree.of_below hb2 (by omega))) (by omega) Hv.out (by omega) hbx2).mono ?_
    rintro e w3 ⟨xs, v, rfl, rfl, hcol, hb3⟩
    obtain ⟨pa, ca, rfl, hall⟩ := hcol.slice (RSlice.keeps RInt.keeps 1)
    generalize hna : (allL S).length = na at hall
    have hz3 := hb3.size
    have hb13 : Below w1.heap.size w1 w3 := hb2.trans (hb3.mono (by omega))
    have bc3 : ∀ j, w3.cell? ⟨w.heap.size, j, none⟩ = w1.cell? ⟨w.heap.size, j, none⟩ := fun j => hb13.cell (by show w.heap.size < _; omega)
    clear hbx2 hcol
    go_wp2_with fail
    go_step3
    go_wp2_with fail
    refine (places_any (hsw.keep (Nat.le_refl _) (Nat.le_refl _) (Agree.of_below hb13 (by omega))) (by omega) (by omega)).mono ?_
    rintro e w4 ⟨v, rfl, hcolp, hb4⟩
    obtain ⟨pq, cq, rfl, hpl⟩ := hcolp.slice RPlace.keeps
    generalize hnp : (placesL S).length = np at hpl
    have hz4 := hb4.size
    have hnp1 := hpl.nle
    have hna1 := hall.nle
    have hall4 := hall.keep (RSlice.keeps RInt.keeps 1) (Nat.le_refl _) (Nat.le_refl _) (Agree.of_below hb4 (Nat.le_refl _))
    have hb14 : Below w1.heap.size w1 w4 := hb13.trans (hb4.mono (by omega))
    have bc4 : ∀ j, w4.cell? ⟨w.heap.size, j, none⟩ = w1.cell? ⟨w.heap.size, j, none⟩ := fun j => hb14.cell (by show w.heap.size < _; omega)
    have hs4 := hsw.keep (Nat.le_refl _) (Nat.le_refl _) (Agree.of_below hb14 (by omega))
    have HO4 := Lib.hid (HO.out.below hb14 (by omega))
    clear hall hcolp bc3 hsw HO
    go_wp2_with fail
    have HN := Lib.hid hna; have HP := Lib.hid hnp
    clear hna hnp
    go_loopw [3, 24] (fun s i wr => ∃ k : Nat, k ≤ np ∧ s = .bool false ∧ i = .int .i64 k ∧ Hid (((placesL S).take k).findSome? (holeD S) = none) ∧ Below w4.heap.size w4 wr) (fun _ i _ => np - (intOf i).toNat)
    case atStart => exact ⟨0, Nat.zero_le _, rfl, rfl, rfl, Below.refl _ _⟩
    case round =>
      obtain ⟨k, hk, rfl, rfl, HK, hbr⟩ := hrel
      have hzr := hbr.size
      have bcr : ∀ j, wr.cell? ⟨w.heap.size, j, none⟩ = w4.cell? ⟨w.heap.size, j, none⟩ := fun j => hbr.cell (by show w.heap.size < _; omega)
      by_cases hlt : k < np
      · obtain ⟨x, y, bp, op', hx, hpe, hbp, hok, c0, c1⟩ := slice_place (hpl.keep RPlace.keeps (Nat.le_refl _) (Nat.le_refl _) (Agree.of_below hbr (by omega))) hlt
        subst hpe
        have hbp2 : bp < wr.heap.size := by omega
        have hww : w.heap.size < wr.heap.size := by omega
        have Hx := Lib.hid hx
        clear hx
        have hbo : Below wr.heap.size wr (wr.alloc (.cells #[.int .i64 x, .int .i64 y] 76)) := (Below.refl _ _).alloc (Nat.le_refl _) _
        have call := changes_any (p1 := x) (p2 := y) (hs4.keep (Nat.le_refl _) (Nat.le_refl _) (Agree.of_below (hbr.trans (hbo.mono hzr)) (by omega))) (by simp; omega) hfew hok
        have hbo' := Lib.hid hbo
        clear hbo
        go_wp2_with fail
        refine call.mono ?_
        clear call
        rintro e w5 ⟨v, rfl, hcold, hb5⟩
        obtain ⟨pd, cd, rfl, hds⟩ := hcold.slice RInt.keeps
        generalize hnd : (changesL S (x, y)).length = nd at hds
        have hnd1 := hds.nle
        have hz5 := hb5.size
        simp only [World.size_alloc] at hz5
        have q0 : w5.cell? ⟨wr.heap.size, 0, none⟩ = some (.int .i64 x) := (hb5.cell (by simp)).trans (by simp)
        have q1 : w5.cell? ⟨wr.heap.size, 1, none⟩ = some (.int .i64 y) := (hb5.cell (by simp)).trans (by simp)
        have hb45 : Below w4.heap.size w4 w5 := (hbr.trans (hbo'.out.mono hzr)).trans (hb5.mono (by simp; omega))
        have bc5 : ∀ j, w5.cell? ⟨w.heap.size, j, none⟩ = w4.cell? ⟨w.heap.size, j, none⟩ := fun j => hb45.cell (by show w.heap.size < _; omega)
        have hdi : ∀ d ∈ changesL S (x, y), IsI64 d := (coll_ints hcold).2
        have HDI := Lib.hid hdi
        have HND := Lib.hid hnd
        have hwx : wr.heap.size < w5.heap.size := by omega
        clear hcold c0 c1 bcr hnd hdi
        go_wp2_with fail
        go_loopw [3, 32] (fun s i wq => ∃ j : Nat, j ≤ nd ∧ s = .bool false ∧ i = .int .i64 j ∧ Hid (((changesL S (x, y)).take j).findSome? (holeC S (x, y)) = none) ∧ Below w5.heap.size w5 wq) (fun _ i _ => nd - (intOf i).toNat)
        case atStart => exact ⟨0, Nat.zero_le _, rfl, rfl, rfl, Below.refl _ _⟩
        case round =>
          obtain ⟨j, hj, rfl, rfl, HJ, hbq⟩ := hrel
          have hzq := hbq.size
          by_cases hltj : j < nd
          · obtain ⟨d, bd, od, hxd, hpe, hlod, hbd, hd1, hd2, c0⟩ := slice_int (hds.keep RInt.keeps (Nat.le_refl _) (Nat.le_refl _) (Agree.of_below hbq (Nat.le_refl _))) hltj
            subst hpe
            have hbd2 : bd < wr.heap.size := by omega
            have Hxd := Lib.hid hxd
            clear hxd
            go_wp2_with fail
            go_loopw [3, 38] (fun s i wz => ∃ l : Nat, l ≤ na ∧ s = .bool false ∧ i = .int .i64 l ∧ Hid (((allL S).take l).find? (badB S (x, y) d) = none) ∧ Below w5.heap.size w5 wz) (fun _ i _ => na - (intOf i).toNat)
            case atStart => exact ⟨0, Nat.zero_le _, rfl, rfl, rfl, hbq⟩
            case round =>
              obtain ⟨l, hl, rfl, rfl, HL, hbz⟩ := hrel
              have hzz := hbz.size
              clear c0
              by_cases hltl : l < na
              · obtain ⟨c, bl, ol, p', n', c', hxc, hpe, hlol, hbl, c0, hcs⟩ := slice_ints (hall4.keep (RSlice.keeps RInt.keeps 1) (Nat.le_refl _) (Nat.le_refl _) (Agree.of_below (hb45.trans (hbz.mono hb45.size)) (by omega))) hltl
                subst hpe
                have hbl2 : bl < wr.heap.size := by omega
                have Hxc := Lib.hid hxc
                have bcz : ∀ j, wr.cell? ⟨w.heap.size, j, none⟩ = w4.cell? ⟨w.heap.size, j, none⟩ := fun j => (hbz.cell (by show w.heap.size < _; omega)).trans (bc5 j)
                have r0 := cell_under hbz hwx q0
                have r1 := cell_under hbz hwx q1
                have call := which_any (hs4.keep (Nat.le_refl _) (Nat.le_refl _) (Agree.of_below (hb45.trans (hbz.mono hb45.size)) (by omega))) hcs (by omega) (by omega) (by omega) hok.1 hok.2 (item := x) (plant := y) (day := d) ⟨hd1, hd2⟩
                clear hxc
                go_wp2_with fail
                refine call.mono ?_
                clear call
                rintro e w6 ⟨pw, nw, cw, rfl, hws, hb6⟩
                have hz6 := hb6.size
                have hwl := hws.len
                have hnw := hws.nle
                by_cases gb : nw = 1
                · subst gb
                  have HB : Hid (badB S (x, y) d c = false) := by show _ = _; simp [badB, hwl]
                  have HS1 := Lib.hid (find_step Hxc.out HB.out HL.out)
                  go_wp2_with fail
                  go_roundw
                  case rel => exact ⟨l + 1, by omega, rfl, by go_num, HS1.out, hbz.trans (hb6.mono hzz)⟩
                  case measure => simp [intOf]; omega
                · have HB : Hid (badB S (x, y) d c = true) := by show _ = _; simp [badB, hwl, gb]
                  have e1 : ((nw : Int) != 1) = true := by simp; omega
                  have hb46 : Below w4.heap.size w4 w6 := (hb45.trans (hbz.mono hb45.size)).trans (hb6.mono (by omega))
                  have HO6 := Lib.hid (HO4.out.below hb46 (by omega))
                  have z0 := HO6.out.cell (j := 0) rfl
                  have z1 := HO6.out.cell (j := 1) rfl
                  have z2 := HO6.out.cell (j := 2) rfl
                  have z3 := HO6.out.cell (j := 3) rfl
                  have z4 := HO6.out.cell (j := 4) rfl
                  have fz := HO6.out.frozen
                  have s0 := cell_under hb6 (Nat.lt_of_lt_of_le hwx hzz) r0
                  have s1 := cell_under hb6 (Nat.lt_of_lt_of_le hwx hzz) r1
                  have HR : Hid (holeOf S = some ((x, y), d, c)) := findSome_hit Hx.out (findSome_hit Hxd.out (by rw [holeC, find_hit Hxc.out HB.out HL.out]; rfl) HJ.out) HK.out
                  have HCS := Lib.hid (hcs.keep RInt.keeps (Nat.le_refl _) (Nat.le_refl _) (Agree.of_below hb6 (by omega)))
                  have hdi := HDI.out
                  clear hcs
                  go_wp2_with fail
                  rw [Exit.noGoto_ret]
                  refine bodyPost_ret (hole_results rfl (((((((((((HO6.out.set 0 _).set 1 _).set 2 _).set 3 _).set 4 _).set 0 _).set 1 _).set 2 _).set 3 _).set 4 _))) rfl ?_
                  have e1 : (holeOf S).isSome = true := by rw [HR.out]; rfl
                  have e2 : allE S = 0 := by rw [allE, Hv.out]; rfl
                  have e3 : holeV S = ⟨x, y, d, c, (whichL S x y d c).length⟩ := by rw [holeV, HR.out]
                  have hbf : Below w.heap.size w w6 := hbw.trans ((hb14.trans (hb46.mono hb14.size)).mono (by omega))
                  refine ⟨.agg #[.int .i64 x, .int .i64 y, .int .i64 d, .slice p' n' c', .int .i64 (nw : Int)], by rw [e1, e2]; rfl, ?_, ((((((((((hbf.setCell (p := ⟨w.heap.size + 1, 0, none⟩) (by simp) _).setCell (p := ⟨w.heap.size + 1, 1, none⟩) (by simp) _).setCell (p := ⟨w.heap.size + 1, 2, none⟩) (by simp) _).setCell (p := ⟨w.heap.size + 1, 3, none⟩) (by simp) _).setCell (p := ⟨w.heap.size + 1, 4, none⟩) (by simp) _).setCell (p := ⟨w.heap.size + 1, 0, none⟩) (by simp) _).setCell (p := ⟨w.heap.size + 1, 1, none⟩) (by simp) _).setCell (p := ⟨w.heap.size + 1, 2, none⟩) (by simp) _).setCell (p := ⟨w.heap.size + 1, 3, none⟩) (by simp) _).setCell (p := ⟨w.heap.size + 1, 4, none⟩) (by simp) _)⟩
                  rw [e3]
                  refine ⟨p', n', c', by rw [hwl], HCS.out.keep RInt.keeps (by omega) (by simp; omega) ((((((((((((Agree.refl _ _ _).setCell (p := ⟨w.heap.size + 1, 0, none⟩) (.inl (by show w.heap.size + 1 < _; omega)) _).setCell (p := ⟨w.heap.size + 1, 1, none⟩) (.inl (by show w.heap.size + 1 < _; omega)) _).setCell (p := ⟨w.heap.size + 1, 2, none⟩) (.inl (by show w.heap.size + 1 < _; omega)) _).setCell (p := ⟨w.heap.size + 1, 3, none⟩) (.inl (by show w.heap.size + 1 < _; omega)) _).setCell (p := ⟨w.heap.size + 1, 4, none⟩) (.inl (by show w.heap.size + 1 < _; omega)) _).setCell (p := ⟨w.heap.size + 1, 0, none⟩) (.inl (by show w.heap.size + 1 < _; omega)) _).setCell (p := ⟨w.heap.size + 1, 1, none⟩) (.inl (by show w.heap.size + 1 < _; omega)) _).setCell (p := ⟨w.heap.size + 1, 2, none⟩) (.inl (by show w.heap.size + 1 < _; omega)) _).setCell (p := ⟨w.heap.size + 1, 3, none⟩) (.inl (by show w.heap.size + 1 < _; omega)) _).setCell (p := ⟨w.heap.size + 1, 4, none⟩) (.inl (by show w.heap.size + 1 < _; omega)) _)), hok.1, hok.2, ⟨hd1, hd2⟩, ?_⟩
                  show IsI64 ((whichL S x y d c).length : Int)
                  rw [hwl]; unfold IsI64; omega
              · have HC : Hid (holeC S (x, y) d = none) := by
                  show _ = _
                  have := HL.out
                  rw [List.take_of_length_le (by rw [HN.out]; omega)] at this
                  rw [holeC, this]; rfl
                have HS1 := Lib.hid (findSome_step Hxd.out HC.out HJ.out)
                go_wp2_with fail
                go_roundw
                case rel => exact ⟨j + 1, by omega, rfl, by go_num, HS1.out, hbz⟩
                case measure => simp [intOf]; omega
          · have HC : Hid (holeD S (x, y) = none) := by
              show _ = _
              have := HJ.out
              rw [List.take_of_length_le (by rw [HND.out]; omega)] at this
              exact this
            have HS1 := Lib.hid (findSome_step Hx.out HC.out HK.out)
            go_wp2_with fail
            go_roundw
            case rel => exact ⟨k + 1, by omega, rfl, by go_num, HS1.out, hb45.trans (hbq.mono hb45.size)⟩
            case measure => simp [intOf]; omega
      · have HR : Hid (holeOf S = none) := by
          show _ = _
          have := HK.out
          rw [List.take_of_length_le (by rw [HP.out]; omega)] at this
          exact this
        have HO6 := Lib.hid (HO4.out.below hbr (by omega))
        have z0 := HO6.out.cell (j := 0) rfl
        have z1 := HO6.out.cell (j := 1) rfl
        have z2 := HO6.out.cell (j := 2) rfl
        have z3 := HO6.out.cell (j := 3) rfl
        have z4 := HO6.out.cell (j := 4) rfl
        have fz := HO6.out.frozen
        go_wp2_with fail
        rw [Exit.noGoto_ret]
        refine bodyPost_ret (hole_results rfl ((((((HO6.out.set 0 _).set 1 _).set 2 _).set 3 _).set 4 _))) rfl ?_
        have e1 : (holeOf S).isSome = false := by rw [HR.out]; rfl
        have e2 : allE S = 0 := by rw [allE, Hv.out]; rfl
        have e3 : holeV S = ⟨0, 0, 0, [], 0⟩ := by rw [holeV, HR.out]
        have hbf : Below w.heap.size w wr := hbw.trans ((hb14.trans (hbr.mono hb14.size)).mono (by omega))
        refine ⟨.agg #[.int .i64 0, .int .i64 0, .int .i64 0, .slice none 0 0, .int .i64 0], by rw [e1, e2]; rfl, ?_, (((((hbf.setCell (p := ⟨w.heap.size + 1, 0, none⟩) (by simp) _).setCell (p := ⟨w.heap.size + 1, 1, none⟩) (by simp) _).setCell (p := ⟨w.heap.size + 1, 2, none⟩) (by simp) _).setCell (p := ⟨w.heap.size + 1, 3, none⟩) (by simp) _).setCell (p := ⟨w.heap.size + 1, 4, none⟩) (by simp) _)⟩
        rw [e3]
        exact ⟨none, 0, 0, rfl, slice_nil _ _ _ _ _, i64_0, i64_0, i64_0, i64_0⟩
end Go.Proofs.Ytpbajggbinljiaa
