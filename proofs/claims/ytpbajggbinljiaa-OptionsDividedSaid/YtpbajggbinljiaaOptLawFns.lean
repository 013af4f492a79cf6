/-
  backflushlaw13.holds computes 'holdB', backflushlaw13.makes 'makesB', backflushref13.SameHole whether two holes are alike.
-/
import Derived.Test.YtpbajggbinljiaaOptFew
namespace Go.Proofs.Ytpbajggbinljiaa
set_option linter.unusedVariables false
set_option linter.unusedSimpArgs false
set_option linter.unnecessarySimpa false
set_option linter.unusedSectionVars false
open Go.RowKit Go.Shelf
attribute [local go_sem] cell_re frozen_re size_re

set_option maxHeartbeats 400000 in
theorem lawHolds_any {lo hi lo2 hi2 : Nat} {p : Option Addr} {n cap : Nat} {l : List Cnd} {q : Option Addr} {m cap2 : Nat} {c : List Int} {w : World}
    (hl : SliceOf RCnd 4 lo hi w p n cap l) (hc : SliceOf RInt 1 lo2 hi2 w q m cap2 c) (hhi : hi ≤ w.heap.size) (hhi2 : hi2 ≤ w.heap.size) :
    Calls Try.prog 21 #[.slice p n cap, .slice q m cap2] w fun e w' => e = .returned (.bool (holdB l c)) ∧ Below w.heap.size w w' := by
  have hn := hl.nle
  have hm := hc.nle
  have Hl := Lib.hid hl.len
  have Hc := Lib.hid hc.len
  go_enter Try.func21, Try.ntmps21
  go_wp2
  go_loopw [9] (fun i wr => ∃ k : Nat, k ≤ n ∧ i = .int .i64 k ∧ Hid (holdB (l.take k) c = true) ∧ Below w.heap.size w wr) (fun i _ => n - (intOf i).toNat)
  case atStart => exact ⟨0, Nat.zero_le _, rfl, rfl, Below.refl _ _⟩
  case round =>
    obtain ⟨k, hk, rfl, Hk, hb⟩ := hrel
    have hz := hb.size
    by_cases hlt : k < n
    · obtain ⟨x, b, off, o, d, hx, rfl, _, hbh, x1, x2, x3, x4, c0, c1, c2, c3⟩ := slice_cnd (hl.keep RCnd.keeps (Nat.le_refl _) (Nat.le_refl _) (Agree.of_below hb hhi)) hlt
      have Hx := Lib.hid hx; clear hx
      have hbw : b < wr.heap.size := by omega
      by_cases g1 : x.on < 0
      · have Hf := Lib.hid (holdB_false Hx.out (cndB_neg (c := c) g1))
        go_wp2
        go_quiet (fail)
        go_wp2
        go_ret
        exact ⟨ret_bool Hf.out.symm, below_drewN (hb.alloc hb.size _) _⟩
      · have g1' : decide (x.on < 0) = false := by simpa using g1
        by_cases g2 : (m : Int) ≤ x.on
        · have Hf := Lib.hid (holdB_false Hx.out (cndB_great (c := c) (by rw [Hc.out]; exact g2)))
          go_wp2
          go_quiet (fail)
          go_wp2
          go_ret
          exact ⟨ret_bool Hf.out.symm, below_drewN (hb.alloc hb.size _) _⟩
        · have g2' : decide ((m : Int) ≤ x.on) = false := by simpa using g2
          have g3 : x.on < (m : Int) := by omega
          have g4 : 0 ≤ x.on := by omega
          obtain ⟨v, b2, off2, hv, rfl, _, hbh2, v1, v2, d0⟩ := slice_int (hc.keep RInt.keeps (Nat.le_refl _) (Nat.le_refl _) (Agree.of_below hb hhi2)) (k := x.on.toNat) (by omega)
          have Hv := Lib.hid hv; clear hv
          have hbw2 : b2 < wr.heap.size := by omega
          by_cases g5 : v = x.cn
          · have g5' : (v == x.cn) = true := by simpa using g5
            have g6' : (v != x.cn) = false := by simpa using g5
            have Hf := Lib.hid (holdB_step Hx.out (cndB_true g4 (by rw [Hc.out]; exact g3) (by rw [Hv.out, g5])) Hk.out)
            clear g5
            go_wp2
            go_quiet (fail)
            go_wp2
            go_roundw
            case rel => exact ⟨k + 1, by omega, by go_num, Hf.out, below_drewN (hb.alloc hb.size _) _⟩
            case measure => simp [intOf]; omega
          · have g5' : (v == x.cn) = false := by simpa using g5
            have g6' : (v != x.cn) = true := by simpa using g5
            have Hf := Lib.hid (holdB_false Hx.out (cndB_ne Hv.out g5))
            clear g5
            go_wp2
            go_quiet (fail)
            go_wp2
            go_ret
            exact ⟨ret_bool Hf.out.symm, below_drewN (hb.alloc hb.size _) _⟩
    · have Hf := Hk.out
      rw [List.take_of_length_le (by rw [Hl.out]; omega)] at Hf
      have Hf' := Lib.hid Hf; clear Hf
      go_wp2
      go_ret
      exact ⟨ret_bool Hf'.out.symm, hb⟩

/-- some recipe makes an item at a plant -/
def makesB (S : Src) (item plant : Int) : Bool := S.recipes.any (atB (item, plant))
theorem any_step {α : Type} {f : α → Bool} {l : List α} {k : Nat} {x : α} (hx : l[k]? = some x) (h : f x = false) (hk : (l.take k).any f = false) : (l.take (k + 1)).any f = false := by
  rw [take_succ_some hx, List.any_append, hk]; simp [h]
theorem any_hit {α : Type} {f : α → Bool} {l : List α} {k : Nat} {x : α} (hx : l[k]? = some x) (h : f x = true) : l.any f = true := by
  rw [List.any_eq_true]; exact ⟨x, List.mem_of_getElem? hx, h⟩

set_option maxHeartbeats 1600000 in
theorem makes_any {lo hi : Nat} {s : SrcV} {S : Src} {item plant : Int} {w : World} (hs : RSrc lo hi w s S) (hhi : hi ≤ w.heap.size) (hi1 : IsI64 item) (hi2 : IsI64 plant) :
    Calls Try.prog 23 #[.agg s.cells.toArray, .int .i64 item, .int .i64 plant] w fun e w' => e = .returned (.bool (makesB S item plant)) ∧ Below w.heap.size w w' := by
  have hrn := hs.re.nle
  have Hr := Lib.hid hs.re.len
  have hre := hs.re
  obtain ⟨⟨up, un, uc⟩, ⟨ip, iN, ic⟩, ⟨pp, pn, pc⟩, ⟨mp, mn, mc⟩, ⟨op, on, oc⟩, ⟨fp, fn, fc⟩, ⟨rp, rn, rc⟩, ⟨sp, sn, sc⟩⟩ := s
  dsimp only at hrn Hr hre
  clear hs
  unfold IsI64 at hi1 hi2
  go_enter Try.func23, Try.ntmps23
  go_wp2_with fail
  go_loopw [12] (fun i wr => ∃ k : Nat, k ≤ rn ∧ i = .int .i64 k ∧ Hid ((S.recipes.take k).any (atB (item, plant)) = false) ∧ Below w.heap.size w wr) (fun i _ => rn - (intOf i).toNat)
  case atStart => exact ⟨0, Nat.zero_le _, rfl, rfl, (Below.refl _ _).alloc (Nat.le_refl _) _⟩
  case round =>
    obtain ⟨k, hk, rfl, Hk, hb⟩ := hrel
    have hz := hb.size
    by_cases hlt : k < rn
    · obtain ⟨x, b, off, r, p', n', c', hx, hpe, hbh, hif, i1, i2, i3, i4, hc⟩ := slice_rcp (hre.keep RRcp.keeps (Nat.le_refl _) (Nat.le_refl _) (Agree.of_below hb hhi)) hlt
      subst hpe
      have hbw2 : b < wr.heap.size := by omega
      have hc := Lib.hid hc
      have Hx := Lib.hid hx
      clear hx hif
      unfold IsI64 at i1 i2 i3 i4
      by_cases g1 : x.item = item
      · have e1 : (x.item == item) = true := by simpa using g1
        by_cases g2 : x.plant = plant
        · have e2 : (x.plant == plant) = true := by simpa using g2
          have HF := Lib.hid (any_hit Hx.out (f := atB (item, plant)) (by simp [atB, g1, g2]))
          go_wp2_with (first | ((with_reducible show wpList _ _ _ ({ dst := _, op := Op.load 60 _, type := _, pos := _, after := _, guard := _ } :: _) _ _); refine wpList_load_agg rfl 60 _ rfl rfl Try.isAgg60 Try.sizeOf60 (rcpCells x r p' n' c') rfl hc.out ?_; unfold rcpCells) | ((with_reducible show wpList _ _ _ ({ dst := _, op := Op.store 60 _ _, type := _, pos := _, after := _, guard := _ } :: _) _ _); refine wpList_store_new rfl 60 _ _ rfl rfl rfl [.string r.item, .string r.plant, .int .i64 x.frm, .int .i64 x.to, .slice p' n' c', .slice r.inP r.inN r.inC, .slice r.outP r.outN r.outC, .int .i64 r.reworkN, .int .i64 r.reworkD, .int .i64 r.yieldN, .int .i64 r.yieldD, .int .i64 r.tolN, .int .i64 r.tolD, .int .i64 r.lead, .slice r.runP r.runN r.runC, .int .i64 x.item, .int .i64 x.plant] rfl infoRcp rfl rfl ?_))
          go_ret
          exact ⟨ret_bool HF.out.symm, hb.alloc hz _⟩
        · have e2 : (x.plant == plant) = false := by simpa using g2
          have HF := Lib.hid (any_step Hx.out (f := atB (item, plant)) (by simp [atB, g2]) Hk.out)
          go_wp2_with (first | ((with_reducible show wpList _ _ _ ({ dst := _, op := Op.load 60 _, type := _, pos := _, after := _, guard := _ } :: _) _ _); refine wpList_load_agg rfl 60 _ rfl rfl Try.isAgg60 Try.sizeOf60 (rcpCells x r p' n' c') rfl hc.out ?_; unfold rcpCells) | ((with_reducible show wpList _ _ _ ({ dst := _, op := Op.store 60 _ _, type := _, pos := _, after := _, guard := _ } :: _) _ _); refine wpList_store_new rfl 60 _ _ rfl rfl rfl [.string r.item, .string r.plant, .int .i64 x.frm, .int .i64 x.to, .slice p' n' c', .slice r.inP r.inN r.inC, .slice r.outP r.outN r.outC, .int .i64 r.reworkN, .int .i64 r.reworkD, .int .i64 r.yieldN, .int .i64 r.yieldD, .int .i64 r.tolN, .int .i64 r.tolD, .int .i64 r.lead, .slice r.runP r.runN r.runC, .int .i64 x.item, .int .i64 x.plant] rfl infoRcp rfl rfl ?_))
          go_roundw
          case rel => exact ⟨k + 1, by omega, by go_num, HF.out, hb.alloc hz _⟩
          case measure => simp [intOf]; omega
      · have e1 : (x.item == item) = false := by simpa using g1
        have HF := Lib.hid (any_step Hx.out (f := atB (item, plant)) (by simp [atB, g1]) Hk.out)
        go_wp2_with (first | ((with_reducible show wpList _ _ _ ({ dst := _, op := Op.load 60 _, type := _, pos := _, after := _, guard := _ } :: _) _ _); refine wpList_load_agg rfl 60 _ rfl rfl Try.isAgg60 Try.sizeOf60 (rcpCells x r p' n' c') rfl hc.out ?_; unfold rcpCells) | ((with_reducible show wpList _ _ _ ({ dst := _, op := Op.store 60 _ _, type := _, pos := _, after := _, guard := _ } :: _) _ _); refine wpList_store_new rfl 60 _ _ rfl rfl rfl [.string r.item, .string r.plant, .int .i64 x.frm, .int .i64 x.to, .slice p' n' c', .slice r.inP r.inN r.inC, .slice r.outP r.outN r.outC, .int .i64 r.reworkN, .int .i64 r.reworkD, .int .i64 r.yieldN, .int .i64 r.yieldD, .int .i64 r.tolN, .int .i64 r.tolD, .int .i64 r.lead, .slice r.runP r.runN r.runC, .int .i64 x.item, .int .i64 x.plant] rfl infoRcp rfl rfl ?_))
        go_roundw
        case rel => exact ⟨k + 1, by omega, by go_num, HF.out, hb.alloc hz _⟩
        case measure => simp [intOf]; omega
    · have HF : Hid (makesB S item plant = false) := by
        show _ = _
        have := Hk.out
        rw [List.take_of_length_le (by rw [Hr.out]; omega)] at this
        exact this
      go_wp2_with fail
      go_ret
      exact ⟨ret_bool HF.out.symm, hb⟩
end Go.Proofs.Ytpbajggbinljiaa
