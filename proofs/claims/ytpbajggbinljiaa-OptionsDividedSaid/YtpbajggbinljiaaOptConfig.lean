/-
  options.Config, backflushref13.Config give the configuration of a code ('cfgL', 'refCfgL'), or the error 130; and these agree.
-/
import Derived.Test.YtpbajggbinljiaaOptRefAll
namespace Go.Proofs.Ytpbajggbinljiaa
set_option linter.unusedVariables false
set_option linter.unusedSimpArgs false
set_option linter.unnecessarySimpa false
set_option linter.unusedSectionVars false
open Go.RowKit
attribute [local go_sem] cell_re frozen_re size_re

/-- n is the code of a permitted configuration -/
def cfgB (S : Src) (n : Int) : Bool := validB S && decide (0 ≤ n) && decide (n.toNat / 4 ^ S.options.length = 0) && permB S (digs n.toNat S.options.length)
def cfgL (S : Src) (n : Int) : List Int := if cfgB S n then digs n.toNat S.options.length else []
def cfgE (S : Src) (n : Int) : Int := if cfgB S n then 0 else 130
theorem cfgB_invalid {S : Src} {n : Int} (h : validB S = false) : cfgB S n = false := by simp [cfgB, h]
theorem cfgB_neg {S : Src} {n : Int} (h : n < 0) : cfgB S n = false := by simp [cfgB]; intros; omega
theorem cfgB_great {S : Src} {n : Nat} (h : n / 4 ^ S.options.length ≠ 0) : cfgB S (n : Int) = false := by unfold cfgB; simp [Int.toNat_natCast, h]
theorem cfgB_perm {S : Src} {n : Nat} (h : permB S (digs n S.options.length) = false) : cfgB S (n : Int) = false := by unfold cfgB; simp [Int.toNat_natCast, h]
theorem cfgB_true {S : Src} {n : Nat} (h1 : validB S = true) (h2 : n / 4 ^ S.options.length = 0) (h : permB S (digs n S.options.length) = true) : cfgB S (n : Int) = true := by unfold cfgB; simp [Int.toNat_natCast, h, h1, h2]
theorem gives_none {S : Src} {n : Int} {w w' : World} (h : cfgB S n = false) (hb : Below w.heap.size w w') : GivesInts2 w (cfgL S n) (cfgE S n) (.returned (.tuple #[.slice none 0 0, .int .i64 130])) w' :=
  ⟨none, 0, 0, by rw [cfgE, h]; rfl, by rw [cfgL, h]; exact slice_nil _ _ _ _ _, hb⟩

set_option maxHeartbeats 1600000 in
theorem config_any {lo hi : Nat} {s : SrcV} {S : Src} {n : Int} {w : World} (hs : RSrc lo hi w s S) (hhi : hi ≤ w.heap.size) (hn : IsI64 n) :
    Calls Try.prog 14 #[.agg s.cells.toArray, .int .i64 n] w (GivesInts2 w (cfgL S n) (cfgE S n)) := by
  have hon := hs.op.nle
  have Ho := Lib.hid hs.op.len
  obtain ⟨hn1, hn2⟩ := hn
  obtain ⟨⟨up, un, uc⟩, ⟨ip, iN, ic⟩, ⟨pp, pn, pc⟩, ⟨mp, mn, mc⟩, ⟨op, on, oc⟩, ⟨fp, fn, fc⟩, ⟨rp, rn, rc⟩, ⟨sp, sn, sc⟩⟩ := s
  dsimp only at hon Ho
  have hb0 : ∀ o1, Below w.heap.size w (w.alloc o1) := fun o1 => (Below.refl _ w).alloc (Nat.le_refl _) _
  have call := fun o1 => valid_any (hs.keep (Nat.le_refl _) (Nat.le_refl _) (Agree.of_below (hb0 o1) hhi)) (by simp; omega)
  cases hv : validB S with
  | false =>
    rw [hv] at call
    have Hf := Lib.hid (cfgB_invalid (n := n) hv)
    clear hv
    go_enter Try.func14, Try.ntmps14
    go_wp2_with fail
    refine (call _).mono ?_
    rintro e w1 ⟨rfl, hb⟩
    go_wp2_with fail
    go_ret2
    exact gives_none Hf.out ((hb0 _).trans (hb.mono (by simp)))
  | true =>
    rw [hv] at call
    have Hv := Lib.hid hv
    have hon6 : on ≤ 6 := by rw [← Ho.out]; exact validB_le hv
    clear hv
    by_cases hneg : n < 0
    · have Hf := Lib.hid (cfgB_neg (S := S) hneg)
      go_enter Try.func14, Try.ntmps14
      go_wp2_with fail
      refine (call _).mono ?_
      rintro e w1 ⟨rfl, hb⟩
      go_wp2_with fail
      go_ret2
      exact gives_none Hf.out ((hb0 _).trans (hb.mono (by simp)))
    · obtain ⟨N, rfl⟩ := Int.eq_ofNat_of_zero_le (by omega : 0 ≤ n)
      have hneg' : decide ((N : Int) < 0) = false := by simp
      have hmk := run_make_row' (P := Try.prog) 32 3 (.int .i64 0) 8 Try.underlying32 (by kernel_rfl) rfl .i64 .i64 on (by omega) (by omega)
      go_enter Try.func14, Try.ntmps14
      go_wp2_with fail
      refine (call _).mono ?_
      clear call
      rintro e w1 ⟨rfl, hb⟩
      have hbw : Below w.heap.size w w1 := (hb0 _).trans (hb.mono (by simp))
      have bx : ∀ j, w1.cell? ⟨w.heap.size, j, none⟩ = (SrcV.cells ⟨⟨up, un, uc⟩, ⟨ip, iN, ic⟩, ⟨pp, pn, pc⟩, ⟨mp, mn, mc⟩, ⟨op, on, oc⟩, ⟨fp, fn, fc⟩, ⟨rp, rn, rc⟩, ⟨sp, sn, sc⟩⟩)[j]? := fun j => (hb.cell (by simp)).trans (by simp)
      dsimp only [SrcV.cells] at bx
      have hz := hb.size
      simp only [World.size_alloc] at hz
      clear hb hb0
      have hi0 : Own (w1.alloc (.cells (madeCells #[Value.int .i64 0] on) 3)) w1.heap.size 3 (List.replicate on (.int .i64 0)) := Own.made _ _ _ _
      go_wp2_with fail
      clear hmk
      go_loopw [1, 6] (fun t i wr => ∃ (r k : Nat) (suf : List Int), t = .int .i64 k ∧ i = .int .i64 ((r : Int) - 1) ∧ r ≤ on ∧ k ≤ 9223372036854775807 ∧ Hid (digs N on = digs k r ++ suf) ∧ Hid (N / 4 ^ on = k / 4 ^ r) ∧ Own wr w1.heap.size 3 (List.replicate r (.int .i64 0) ++ suf.map (Value.int .i64)) ∧ Below w1.heap.size w1 wr) (fun _ i _ => (intOf i + 1).toNat)
      case atStart => exact ⟨on, N, [], rfl, rfl, Nat.le_refl _, by omega, by show _ = _; simp, rfl, by simpa using hi0, (Below.refl _ _).alloc (Nat.le_refl _) _⟩
      case round =>
        obtain ⟨r, k, suf, rfl, rfl, hr, hk, Hd, Hq, ho, hb⟩ := hrel
        have hzo := ho.lt
        have hz2 := hb.size
        match r, hr, Hd, Hq, ho with
        | 0, hr, Hd, Hq, ho =>
          simp only [digs, List.nil_append, List.replicate_zero, Nat.pow_zero, Nat.div_one] at Hd Hq ho
          have hl : suf.length = on := by rw [← show digs N on = suf from Hd, digs_length]
          have hsr : ∀ x ∈ suf, 0 ≤ x ∧ x ≤ 3 := by rw [← show digs N on = suf from Hd]; exact digs_range _ _
          have hsl := ho.ints (lo := w1.heap.size) (hi := wr.heap.size) (by omega) (Nat.le_refl _) hzo (fun x hx => ⟨by have := hsr x hx; omega, by have := hsr x hx; omega⟩)
          rw [hl, ← show digs N on = suf from Hd] at hsl
          have hbr : Below w.heap.size w wr := hbw.trans (hb.mono hbw.size)
          have bc : ∀ j, wr.cell? ⟨w.heap.size, j, none⟩ = w1.cell? ⟨w.heap.size, j, none⟩ := fun j => hb.cell (by show w.heap.size < _; omega)
          clear ho hl hsr
          by_cases hk0 : k = 0
          · subst hk0
            have call := validC_any (hs.keep (Nat.le_refl _) (Nat.le_refl _) (Agree.of_below hbr hhi)) hsl (by omega) (Nat.le_refl _)
            have k1 : ((0 : Int) != 0) = false := rfl
            cases hp : permB S (digs N on) with
            | false =>
              rw [hp] at call
              have Hf := Lib.hid (cfgB_perm (S := S) (n := N) (by rw [Ho.out]; exact hp))
              clear hp
              go_wp2_with fail
              refine call.mono ?_
              rintro e w3 ⟨rfl, hb3⟩
              go_wp2_with fail
              go_ret2
              exact gives_none Hf.out (hbr.trans (hb3.mono hbr.size))
            | true =>
              rw [hp] at call
              have Hf := Lib.hid (cfgB_true (S := S) (n := N) Hv.out (by rw [Ho.out]; exact Hq.out) (by rw [Ho.out]; exact hp))
              clear hp
              go_wp2_with fail
              refine call.mono ?_
              rintro e w3 ⟨rfl, hb3⟩
              have hsl3 := hsl.keep RInt.keeps (show w.heap.size ≤ w1.heap.size by omega) hb3.size (Agree.of_below hb3 (Nat.le_refl _))
              go_wp2_with fail
              go_ret2
              refine ⟨_, on, on, ret_tup2 rfl (congrArg (Value.int .i64) (by rw [cfgE, Hf.out]; rfl)), ?_, hbr.trans (hb3.mono hbr.size)⟩
              rw [cfgL, Hf.out, if_pos rfl, Int.toNat_natCast, Ho.out]
              exact hsl3
          · have k1 : ((k : Int) != 0) = true := by simp; exact hk0
            have Hf := Lib.hid (cfgB_great (S := S) (n := N) (by rw [Ho.out, Hq.out]; exact hk0))
            clear hk0
            go_wp2_with fail
            go_ret2
            exact gives_none Hf.out hbr
        | r + 1, hr, Hd, Hq, ho =>
          have e1 : ((r + 1 : Nat) : Int) - 1 = (r : Int) := by omega
          rw [e1]
          have hcell : wr.cell? ⟨w1.heap.size, r, none⟩ = some (.int .i64 0) := ho.cell (by rw [List.getElem?_append_left (by simp)]; simp)
          have hfz := ho.frozen r
          have Ho2 := Lib.hid (set_rep ▸ ho.set r (.int .i64 ((k % 4 : Nat) : Int)))
          have hq : k / 4 ≤ 9223372036854775807 := by omega
          have Hd2 : Hid (digs N on = digs (k / 4) r ++ (((k % 4 : Nat) : Int) :: suf)) := by
            show _ = _
            rw [show digs N on = _ from Hd]
            simp [digs]
          have Hq2 : Hid (N / 4 ^ on = k / 4 / 4 ^ r) := by
            show _ = _
            rw [show N / 4 ^ on = _ from Hq, Nat.div_div_eq_div_mul, Nat.pow_succ, Nat.mul_comm 4]
          clear Hd ho e1 Hq
          go_wp2_with fail
          go_roundw
          case rel => exact ⟨r, k / 4, _ :: suf, by go_num, by go_num, by omega, hq, Hd2, Hq2, by have := Ho2.out; simpa using this, hb.setCell (p := ⟨w1.heap.size, r, none⟩) (Nat.le_refl _) _⟩
          case measure => simp [intOf]

/-! ### the reference -/
def refCfg (S : Src) (n : Int) : Option (List Int) := (allL S).find? fun c => decide (codeZ c = n)
def refCfgL (S : Src) (n : Int) : List Int := (refCfg S n).getD []
def refCfgE (S : Src) (n : Int) : Int := if (refCfg S n).isSome then 0 else 130
theorem find_step {α : Type} {f : α → Bool} {l : List α} {k : Nat} {x : α} (hx : l[k]? = some x) (h : f x = false) (hk : (l.take k).find? f = none) : (l.take (k + 1)).find? f = none := by
  rw [take_succ_some hx, List.find?_append, hk]; simp [h]
theorem find_hit {α : Type} {f : α → Bool} {l : List α} {k : Nat} {x : α} (hx : l[k]? = some x) (h : f x = true) (hk : (l.take k).find? f = none) : l.find? f = some x := by
  have e : l = l.take k ++ x :: l.drop (k + 1) := by
    have hlt := lt_of_some hx
    rw [List.getElem?_eq_getElem hlt] at hx
    injection hx with hx
    rw [← hx, ← List.drop_eq_getElem_cons hlt, List.take_append_drop]
  rw [e, List.find?_append, hk]; simp [h]
theorem allL_dig {S : Src} {c : List Int} (h : c ∈ allL S) : permB S c = true := by
  unfold allL at h
  split at h
  · exact (List.mem_filter.1 h).2
  · cases h

set_option maxHeartbeats 800000 in
theorem refConfig_any {lo hi : Nat} {s : SrcV} {S : Src} {n : Int} {w : World} (hs : RSrc lo hi w s S) (hhi : hi ≤ w.heap.size) :
    Calls Try.prog 15 #[.agg s.cells.toArray, .int .i64 n] w (GivesInts2 w (refCfgL S n) (refCfgE S n)) := by
  obtain ⟨⟨up, un, uc⟩, ⟨ip, iN, ic⟩, ⟨pp, pn, pc⟩, ⟨mp, mn, mc⟩, ⟨op, on, oc⟩, ⟨fp, fn, fc⟩, ⟨rp, rn, rc⟩, ⟨sp, sn, sc⟩⟩ := s
  have hb0 : ∀ o1, Below w.heap.size w (w.alloc o1) := fun o1 => (Below.refl _ w).alloc (Nat.le_refl _) _
  have call := fun o1 => refAll_any (hs.keep (Nat.le_refl _) (Nat.le_refl _) (Agree.of_below (hb0 o1) hhi)) (by simp; omega)
  cases hv : validB S with
  | false =>
    have Hf : Hid (refCfg S n = none) := by show _ = _; rw [refCfg, allL, hv]; rfl
    have He : Hid (allE S = 130) := by show _ = _; rw [allE, hv]; rfl
    rw [He.out] at call
    clear hv
    go_enter Try.func15, Try.ntmps15
    go_wp2_with fail
    refine (call _).mono ?_
    rintro e w1 ⟨p1, n1, c1, rfl, hsl, hb⟩
    go_wp2_with fail
    go_ret2
    exact ⟨none, 0, 0, ret_tup2 rfl (congrArg (Value.int .i64) (by rw [refCfgE, Hf.out]; rfl)), by rw [refCfgL, Hf.out]; exact slice_nil _ _ _ _ _, (hb0 _).trans (hb.mono (by simp))⟩
  | true =>
    have He : Hid (allE S = 0) := by show _ = _; rw [allE, hv]; rfl
    rw [He.out] at call
    clear hv
    go_enter Try.func15, Try.ntmps15
    go_wp2_with fail
    refine (call _).mono ?_
    clear call
    rintro e w1 ⟨p1, n1, c1, rfl, hsl, hb⟩
    have hbw : Below w.heap.size w w1 := (hb0 _).trans (hb.mono (by simp))
    have hn1 := hsl.nle
    have Hl := Lib.hid hsl.len
    clear hb hb0
    go_wp2_with fail
    go_loop [8] (fun i => ∃ k : Nat, k ≤ n1 ∧ i = .int .i64 k ∧ Hid (((allL S).take k).find? (fun c => decide (codeZ c = n)) = none)) (fun i => n1 - (intOf i).toNat)
    case atStart => exact ⟨0, Nat.zero_le _, rfl, rfl⟩
    case round =>
      obtain ⟨k, hk, rfl, Hk⟩ := hrel
      by_cases hlt : k < n1
      · obtain ⟨x, b, off, p', n', c', hx, hp, hlo, hbh, c0, hxs⟩ := slice_ints hsl hlt
        subst hp
        have Hd := Lib.hid (permB_dig (allL_dig (List.mem_of_getElem? hx)))
        have Hx := Lib.hid hx; clear hx
        have call := refCode_any hxs Hd.out
        by_cases g : codeZ x = n
        · have g1 : (codeZ x == n) = true := by simpa using g
          have Hf := Lib.hid (find_hit Hx.out (f := fun c => decide (codeZ c = n)) (by simpa using g) Hk.out)
          clear g
          go_wp2_with fail
          refine call.mono ?_
          rintro e w2 ⟨rfl, rfl⟩
          go_wp2_with fail
          go_ret2
          refine ⟨p', n', c', ret_tup2 rfl (congrArg (Value.int .i64) (by rw [refCfgE, refCfg, Hf.out]; rfl)), ?_, hbw⟩
          rw [refCfgL, refCfg, Hf.out]
          exact hxs.keep RInt.keeps (by simp) (Nat.le_refl _) (Agree.refl _ _ _)
        · have g1 : (codeZ x == n) = false := by simpa using g
          have Hf := Lib.hid (find_step Hx.out (f := fun c => decide (codeZ c = n)) (by simpa using g) Hk.out)
          clear g
          go_wp2_with fail
          refine call.mono ?_
          rintro e w2 ⟨rfl, rfl⟩
          go_wp2_with fail
          go_round
          case rel => exact ⟨k + 1, by omega, by go_num, Hf.out⟩
          case measure => simp [intOf]; omega
      · have Hf : Hid (refCfg S n = none) := by
          have := Hk.out
          rw [List.take_of_length_le (by rw [Hl.out]; omega)] at this
          exact this
        go_wp2_with fail
        go_ret2
        exact ⟨none, 0, 0, ret_tup2 rfl (congrArg (Value.int .i64) (by rw [refCfgE, Hf.out]; rfl)), by rw [refCfgL, Hf.out]; exact slice_nil _ _ _ _ _, hbw⟩
end Go.Proofs.Ytpbajggbinljiaa
