/-
  backflushref13.hold computes 'holdB'; backflushref13.Valid computes 'permB'; options.Code, backflushref13.Code give the code of a permitted configuration, else the error 130.
-/
import Derived.Test.YtpbajggbinljiaaOptValid2
namespace Go.Proofs.Ytpbajggbinljiaa
set_option linter.unusedVariables false
set_option linter.unusedSimpArgs false
set_option linter.unnecessarySimpa false
set_option linter.unusedSectionVars false
open Go.RowKit
attribute [local go_sem] cell_re frozen_re size_re

set_option maxHeartbeats 400000 in
theorem refHold_any {lo hi lo2 hi2 : Nat} {p : Option Addr} {n cap : Nat} {l : List Cnd} {q : Option Addr} {m cap2 : Nat} {c : List Int} {w : World}
    (hl : SliceOf RCnd 4 lo hi w p n cap l) (hc : SliceOf RInt 1 lo2 hi2 w q m cap2 c) (hhi : hi ≤ w.heap.size) (hhi2 : hi2 ≤ w.heap.size) :
    Calls Try.prog 34 #[.slice p n cap, .slice q m cap2] w fun e w' => e = .returned (.bool (holdB l c)) ∧ Below w.heap.size w w' := by
  have hn := hl.nle
  have hm := hc.nle
  have Hl := Lib.hid hl.len
  have Hc := Lib.hid hc.len
  go_enter Try.func34, Try.ntmps34
  go_wp2
  go_loopw [5] (fun i wr => ∃ k : Nat, k ≤ n ∧ i = .int .i64 k ∧ Hid (holdB (l.take k) c = true) ∧ Below w.heap.size w wr) (fun i _ => n - (intOf i).toNat)
  case atStart => exact ⟨0, Nat.zero_le _, rfl, rfl, Below.refl _ _⟩
  case round =>
    obtain ⟨k, hk, rfl, Hk, hb⟩ := hrel
    have hz := hb.size
    by_cases hlt : k < n
    · obtain ⟨x, b, off, o, d, hx, rfl, _, hbh, x1, x2, x3, x4, c0, c1, c2, c3⟩ := slice_cnd (hl.keep RCnd.keeps (Nat.le_refl _) (Nat.le_refl _) (Agree.of_below hb hhi)) hlt
      have Hx := Lib.hid hx; clear hx
      have hbw : b < wr.heap.size := by omega
      by_cases g1 : x.on < 0
      · have Hf := Lib.hid (holdB_false Hx.out (cndB_neg (c := c) g1))
        go_wp2
        go_quiet (fail)
        go_wp2
        go_ret
        exact ⟨ret_bool Hf.out.symm, below_drewN hb _⟩
      · have g1' : decide (x.on < 0) = false := by simpa using g1
        by_cases g2 : (m : Int) ≤ x.on
        · have Hf := Lib.hid (holdB_false Hx.out (cndB_great (c := c) (by rw [Hc.out]; exact g2)))
          go_wp2
          go_quiet (fail)
          go_wp2
          go_ret
          exact ⟨ret_bool Hf.out.symm, below_drewN hb _⟩
        · have g2' : decide ((m : Int) ≤ x.on) = false := by simpa using g2
          have g3 : x.on < (m : Int) := by omega
          have g4 : 0 ≤ x.on := by omega
          obtain ⟨v, b2, off2, hv, rfl, _, hbh2, v1, v2, d0⟩ := slice_int (hc.keep RInt.keeps (Nat.le_refl _) (Nat.le_refl _) (Agree.of_below hb hhi2)) (k := x.on.toNat) (by omega)
          have Hv := Lib.hid hv; clear hv
          have hbw2 : b2 < wr.heap.size := by omega
          by_cases g5 : v = x.cn
          · have g5' : (v == x.cn) = true := by simpa using g5
            have g6' : (v != x.cn) = false := by simpa using g5
            have Hf := Lib.hid (holdB_step Hx.out (cndB_true g4 (by rw [Hc.out]; exact g3) (by rw [Hv.out, g5])) Hk.out)
            clear g5
            go_wp2
            go_quiet (fail)
            go_wp2
            go_roundw
            case rel => exact ⟨k + 1, by omega, by go_num, Hf.out, below_drewN hb _⟩
            case measure => simp [intOf]; omega
          · have g5' : (v == x.cn) = false := by simpa using g5
            have g6' : (v != x.cn) = true := by simpa using g5
            have Hf := Lib.hid (holdB_false Hx.out (cndB_ne Hv.out g5))
            clear g5
            go_wp2
            go_quiet (fail)
            go_wp2
            go_ret
            exact ⟨ret_bool Hf.out.symm, below_drewN hb _⟩
    · have Hf := Hk.out
      rw [List.take_of_length_le (by rw [Hl.out]; omega)] at Hf
      have Hf' := Lib.hid Hf; clear Hf
      go_wp2
      go_ret
      exact ⟨ret_bool Hf'.out.symm, hb⟩

theorem permB_any {S : Src} {c : List Int} (h : anyB S.forbids c = true) : permB S c = false := by simp [permB, h]
theorem permB_true {S : Src} {c : List Int} (h1 : validB S = true) (h2 : c.length = S.options.length) (h3 : inB S.options c = true) (h4 : anyB S.forbids c = false) : permB S c = true := by simp [permB, h1, h2, h3, h4]

set_option maxHeartbeats 1600000 in
theorem refValid_any {lo hi lo2 hi2 : Nat} {s : SrcV} {S : Src} {q : Option Addr} {m cap2 : Nat} {c : List Int} {w : World}
    (hs : RSrc lo hi w s S) (hc : SliceOf RInt 1 lo2 hi2 w q m cap2 c) (hhi : hi ≤ w.heap.size) (hhi2 : hi2 ≤ w.heap.size) :
    Calls Try.prog 17 #[.agg s.cells.toArray, .slice q m cap2] w fun e w' => e = .returned (.bool (permB S c)) ∧ Below w.heap.size w w' := by
  have hmm := hc.nle
  have hon := hs.op.nle
  have hfn := hs.fo.nle
  have Hc := Lib.hid hc.len
  have Ho := Lib.hid hs.op.len
  have Hfo := Lib.hid hs.fo.len
  obtain ⟨⟨up, un, uc⟩, ⟨ip, iN, ic⟩, ⟨pp, pn, pc⟩, ⟨mp, mn, mc⟩, ⟨op, on, oc⟩, ⟨fp, fn, fc⟩, ⟨rp, rn, rc⟩, ⟨sp, sn, sc⟩⟩ := s
  dsimp only at hon Ho hfn Hfo
  have hb0 : ∀ o1, Below w.heap.size w (w.alloc o1) := fun o1 => (Below.refl _ w).alloc (Nat.le_refl _) _
  have call := fun o1 => refOptions_any (hs.keep (Nat.le_refl _) (Nat.le_refl _) (Agree.of_below (hb0 o1) hhi)) (by simp; omega)
  cases hv : validB S with
  | false =>
    rw [hv] at call
    have Hf := Lib.hid (permB_invalid (c := c) hv)
    clear hv
    go_enter Try.func17, Try.ntmps17
    go_wp2_with fail
    refine (call _).mono ?_
    rintro e w1 ⟨rfl, hb⟩
    go_wp2_with fail
    go_ret
    exact ⟨ret_bool Hf.out.symm, (hb0 _).trans (hb.mono (by simp))⟩
  | true =>
    rw [hv] at call
    have Hv := Lib.hid hv; clear hv
    by_cases hml : m = on
    · subst hml
      have hne : ((m : Int) != (m : Int)) = false := by simp
      go_enter Try.func17, Try.ntmps17
      go_wp2_with fail
      refine (call _).mono ?_
      clear call
      rintro e w1 ⟨rfl, hb⟩
      have hbw : Below w.heap.size w w1 := (hb0 _).trans (hb.mono (by simp))
      have bx4 : w1.cell? ⟨w.heap.size, 4, none⟩ = some (.slice op m oc) := (hb.cell (by simp)).trans (by simp)
      have bx5 : w1.cell? ⟨w.heap.size, 5, none⟩ = some (.slice fp fn fc) := (hb.cell (by simp)).trans (by simp)
      have hz := hb.size
      simp only [World.size_alloc] at hz
      clear hb hb0
      go_wp2_with fail
      go_loopw [5] (fun i wr => ∃ k : Nat, k ≤ m ∧ i = .int .i64 k ∧ Hid ((List.range k).all (digB S.options c) = true) ∧ Below w1.heap.size w1 wr) (fun i _ => m - (intOf i).toNat)
      case atStart => exact ⟨0, Nat.zero_le _, rfl, rfl, Below.refl _ _⟩
      case round =>
        obtain ⟨k, hk, rfl, Hk, hb⟩ := hrel
        have hz2 := hb.size
        have hbr : Below w.heap.size w wr := hbw.trans (hb.mono hbw.size)
        have hsw := hs.keep (Nat.le_refl _) (Nat.le_refl _) (Agree.of_below hbr hhi)
        have hcw := hc.keep RInt.keeps (Nat.le_refl _) (Nat.le_refl _) (Agree.of_below hbr hhi2)
        have by4 : wr.cell? ⟨w.heap.size, 4, none⟩ = some (.slice op m oc) := (hb.cell (by show w.heap.size < _; omega)).trans bx4
        have by5 : wr.cell? ⟨w.heap.size, 5, none⟩ = some (.slice fp fn fc) := (hb.cell (by show w.heap.size < _; omega)).trans bx5
        clear bx4 bx5
        by_cases hlt : k < m
        · obtain ⟨x, b1, o1, hx, rfl, _, hb1, x1, x2, c0⟩ := slice_int hcw hlt
          obtain ⟨y, b2, o2, nm, p', c', hy, hp, _, hb2, y1, d0, d1⟩ := slice_opt hsw.op hlt
          dsimp only at hp
          subst hp
          have Hx := Lib.hid hx; clear hx
          have Hy := Lib.hid hy; clear hy
          clear by5
          by_cases g1 : x < 0
          · have Hf := Lib.hid (permB_dig_false (inB_false (by rw [Hc.out]; exact hlt) (digB_neg (o := S.options) Hx.out g1)))
            go_wp2_with fail
            go_quiet (fail)
            go_wp2_with fail
            go_ret
            exact ⟨ret_bool Hf.out.symm, below_drewN hbr _⟩
          · have g1' : decide (x < 0) = false := by simpa using g1
            by_cases g2 : (y : Int) ≤ x
            · have Hf := Lib.hid (permB_dig_false (inB_false (by rw [Hc.out]; exact hlt) (digB_great Hx.out Hy.out g2)))
              go_wp2_with fail
              go_quiet (fail)
              go_wp2_with fail
              go_ret
              exact ⟨ret_bool Hf.out.symm, below_drewN hbr _⟩
            · have g2' : decide ((y : Int) ≤ x) = false := by simpa using g2
              have Hf := Lib.hid (range_step Hk.out (digB_true Hx.out Hy.out (by omega) (by omega)))
              go_wp2_with fail
              go_quiet (fail)
              go_wp2_with fail
              go_roundw
              case rel => exact ⟨k + 1, by omega, by go_num, Hf.out, below_drewN hb _⟩
              case measure => simp [intOf]; omega
        · have hkm : k = m := by omega
          have Hi : Hid (inB S.options c = true) := by show _ = _; unfold inB; rw [Hc.out, ← hkm]; exact Hk.out
          clear hkm
          go_wp2_with fail
          obtain ⟨wo, hwo⟩ : ∃ wo : World, wo = wr := ⟨_, rfl⟩
          subst hwo
          go_loopw [6] (fun i wr => ∃ k : Nat, k ≤ fn ∧ i = .int .i64 k ∧ Hid (anyB (S.forbids.take k) c = false) ∧ Below wo.heap.size wo wr) (fun i _ => fn - (intOf i).toNat)
          case atStart => exact ⟨0, Nat.zero_le _, rfl, rfl, Below.refl _ _⟩
          case round =>
            obtain ⟨k, hk, rfl, Hk, hb3⟩ := hrel
            have hz3 := hb3.size
            have hbr3 : Below w.heap.size w wr := hbr.trans (hb3.mono hbr.size)
            have bz5 : wr.cell? ⟨w.heap.size, 5, none⟩ = some (.slice fp fn fc) := (hb3.cell (by show w.heap.size < _; omega)).trans by5
            clear by5 by4
            by_cases hlt : k < fn
            · obtain ⟨x, b, off, p', n', c', hx, hp, _, hbh, c0, hxs⟩ := slice_cnds (hsw.fo.keep RCnds.keeps (Nat.le_refl _) (Nat.le_refl _) (Agree.of_below hb3 (by omega))) hlt
              dsimp only at hp
              subst hp
              have Hx := Lib.hid hx; clear hx
              have call := refHold_any hxs (hcw.keep RInt.keeps (Nat.le_refl _) (Nat.le_refl _) (Agree.of_below hb3 (by omega))) (by omega) (by omega)
              cases hB : holdB x c with
              | true =>
                rw [hB] at call
                have Hf := Lib.hid (permB_any (anyB_true Hx.out hB))
                clear hB
                go_wp2_with (go_at_call 34; refine call.mono ?_; rintro e w1 ⟨rfl, hb1⟩)
                go_ret
                exact ⟨ret_bool Hf.out.symm, hbr3.trans (hb1.mono hbr3.size)⟩
              | false =>
                rw [hB] at call
                have Hf := Lib.hid (anyB_step Hx.out hB Hk.out)
                clear hB
                go_wp2_with (go_at_call 34; refine call.mono ?_; rintro e w1 ⟨rfl, hb1⟩)
                go_roundw
                case rel => exact ⟨k + 1, by omega, by go_num, Hf.out, hb3.trans (hb1.mono hz3)⟩
                case measure => simp [intOf]; omega
            · have Hf := Lib.hid (permB_true Hv.out (by rw [Hc.out, Ho.out]) Hi.out (by have := Hk.out; rwa [List.take_of_length_le (by rw [Hfo.out]; omega)] at this))
              go_wp2_with fail
              go_ret
              exact ⟨ret_bool Hf.out.symm, hbr3⟩
    · have hne : ((m : Int) != (on : Int)) = true := by simp; omega
      have Hf := Lib.hid (permB_len (S := S) (c := c) (by rw [Hc.out, Ho.out]; exact hml))
      clear hml
      go_enter Try.func17, Try.ntmps17
      go_wp2_with fail
      refine (call _).mono ?_
      clear call
      rintro e w1 ⟨rfl, hb⟩
      obtain ⟨bc, bf⟩ := bcell hb
      have hbw : Below w.heap.size w w1 := (hb0 _).trans (hb.mono (by simp))
      clear hb hb0
      go_wp2_with fail
      go_ret
      exact ⟨ret_bool Hf.out.symm, hbw⟩

theorem ret_int2 {k k' : IntKind} {a b a' b' : Int} (h : a = a') (h' : b = b') : Ending.returned (.tuple #[.int k a, .int k' b]) = .returned (.tuple #[.int k a', .int k' b']) := by rw [h, h']
/-- the code of a permitted configuration, and the error -/
def codeOf (S : Src) (c : List Int) : Int := if permB S c then codeZ c else 0
def codeE (S : Src) (c : List Int) : Int := if permB S c then 0 else 130

set_option maxHeartbeats 400000 in
theorem codeC_any {lo hi lo2 hi2 : Nat} {s : SrcV} {S : Src} {q : Option Addr} {m cap2 : Nat} {c : List Int} {w : World}
    (hs : RSrc lo hi w s S) (hc : SliceOf RInt 1 lo2 hi2 w q m cap2 c) (hhi : hi ≤ w.heap.size) (hhi2 : hi2 ≤ w.heap.size) :
    Calls Try.prog 12 #[.agg s.cells.toArray, .slice q m cap2] w fun e w' => e = .returned (.tuple #[.int .i64 (codeOf S c), .int .i64 (codeE S c)]) ∧ Below w.heap.size w w' := by
  have hb0 : ∀ o1, Below w.heap.size w (w.alloc o1) := fun o1 => (Below.refl _ w).alloc (Nat.le_refl _) _
  have call := fun o1 => validC_any (hs.keep (Nat.le_refl _) (Nat.le_refl _) (Agree.of_below (hb0 o1) hhi)) (hc.keep RInt.keeps (Nat.le_refl _) (Nat.le_refl _) (Agree.of_below (hb0 o1) hhi2)) (by simp; omega) (by simp; omega)
  obtain ⟨⟨up, un, uc⟩, ⟨ip, iN, ic⟩, ⟨pp, pn, pc⟩, ⟨mp, mn, mc⟩, ⟨op, on, oc⟩, ⟨fp, fn, fc⟩, ⟨rp, rn, rc⟩, ⟨sp, sn, sc⟩⟩ := s
  cases hv : permB S c with
  | false =>
    rw [hv] at call
    have Hf := Lib.hid hv
    clear hv
    go_enter Try.func12, Try.ntmps12
    go_wp2_with fail
    refine (call _).mono ?_
    rintro e w1 ⟨rfl, hb⟩
    go_wp2_with fail
    go_ret2
    exact ⟨ret_int2 (by rw [codeOf, Hf.out]; rfl) (by rw [codeE, Hf.out]; rfl), (hb0 _).trans (hb.mono (by simp))⟩
  | true =>
    rw [hv] at call
    have Hf := Lib.hid hv
    have Hd := Lib.hid (permB_dig hv)
    clear hv
    go_enter Try.func12, Try.ntmps12
    go_wp2_with fail
    refine (call _).mono ?_
    clear call
    rintro e w1 ⟨rfl, hb⟩
    have hbw : Below w.heap.size w w1 := (hb0 _).trans (hb.mono (by simp))
    clear hb hb0
    go_wp2_with fail
    refine (code_any (hc.keep RInt.keeps (Nat.le_refl _) (Nat.le_refl _) (Agree.of_below hbw hhi2)) Hd.out).mono ?_
    rintro e w2 ⟨rfl, rfl⟩
    go_wp2_with fail
    go_ret2
    exact ⟨ret_int2 (by rw [codeOf, Hf.out]; rfl) (by rw [codeE, Hf.out]; rfl), hbw⟩

set_option maxHeartbeats 400000 in
theorem refCodeC_any {lo hi lo2 hi2 : Nat} {s : SrcV} {S : Src} {q : Option Addr} {m cap2 : Nat} {c : List Int} {w : World}
    (hs : RSrc lo hi w s S) (hc : SliceOf RInt 1 lo2 hi2 w q m cap2 c) (hhi : hi ≤ w.heap.size) (hhi2 : hi2 ≤ w.heap.size) :
    Calls Try.prog 13 #[.agg s.cells.toArray, .slice q m cap2] w fun e w' => e = .returned (.tuple #[.int .i64 (codeOf S c), .int .i64 (codeE S c)]) ∧ Below w.heap.size w w' := by
  have hb0 : ∀ o1, Below w.heap.size w (w.alloc o1) := fun o1 => (Below.refl _ w).alloc (Nat.le_refl _) _
  have call := fun o1 => refValid_any (hs.keep (Nat.le_refl _) (Nat.le_refl _) (Agree.of_below (hb0 o1) hhi)) (hc.keep RInt.keeps (Nat.le_refl _) (Nat.le_refl _) (Agree.of_below (hb0 o1) hhi2)) (by simp; omega) (by simp; omega)
  obtain ⟨⟨up, un, uc⟩, ⟨ip, iN, ic⟩, ⟨pp, pn, pc⟩, ⟨mp, mn, mc⟩, ⟨op, on, oc⟩, ⟨fp, fn, fc⟩, ⟨rp, rn, rc⟩, ⟨sp, sn, sc⟩⟩ := s
  cases hv : permB S c with
  | false =>
    rw [hv] at call
    have Hf := Lib.hid hv
    clear hv
    go_enter Try.func13, Try.ntmps13
    go_wp2_with fail
    refine (call _).mono ?_
    rintro e w1 ⟨rfl, hb⟩
    go_wp2_with fail
    go_ret2
    exact ⟨ret_int2 (by rw [codeOf, Hf.out]; rfl) (by rw [codeE, Hf.out]; rfl), (hb0 _).trans (hb.mono (by simp))⟩
  | true =>
    rw [hv] at call
    have Hf := Lib.hid hv
    have Hd := Lib.hid (permB_dig hv)
    clear hv
    go_enter Try.func13, Try.ntmps13
    go_wp2_with fail
    refine (call _).mono ?_
    clear call
    rintro e w1 ⟨rfl, hb⟩
    have hbw : Below w.heap.size w w1 := (hb0 _).trans (hb.mono (by simp))
    clear hb hb0
    go_wp2_with fail
    refine (refCode_any (hc.keep RInt.keeps (Nat.le_refl _) (Nat.le_refl _) (Agree.of_below hbw hhi2)) Hd.out).mono ?_
    rintro e w2 ⟨rfl, rfl⟩
    go_wp2_with fail
    go_ret2
    exact ⟨ret_int2 (by rw [codeOf, Hf.out]; rfl) (by rw [codeE, Hf.out]; rfl), hbw⟩
end Go.Proofs.Ytpbajggbinljiaa
