/-
  options.Valid, backflushref13.Valid compute 'permB'; options.Code, backflushref13.Code: the code where 'permB'.
-/
import Derived.Test.YtpbajggbinljiaaOptValid
namespace Go.Proofs.Ytpbajggbinljiaa
set_option linter.unusedVariables false
set_option linter.unusedSimpArgs false
set_option linter.unnecessarySimpa false
set_option linter.unusedSectionVars false
open Go.RowKit
attribute [local go_sem] cell_re frozen_re size_re

theorem permB_invalid {S : Src} {c : List Int} (h : validB S = false) : permB S c = false := by simp [permB, h]
theorem permB_len {S : Src} {c : List Int} (h : c.length ≠ S.options.length) : permB S c = false := by simp [permB, h]
theorem permB_dig_false {S : Src} {c : List Int} (h : inB S.options c = false) : permB S c = false := by simp [permB, h]
theorem permB_eq {S : Src} {c : List Int} (h1 : validB S = true) (h2 : c.length = S.options.length) (h3 : inB S.options c = true) : permB S c = !anyB S.forbids c := by simp [permB, h1, h2, h3]
theorem digB_neg {o : List Nat} {c : List Int} {k : Nat} {x : Int} (hx : c[k]? = some x) (h : x < 0) : digB o c k = false := by simp [digB, hx]; omega
theorem digB_great {o : List Nat} {c : List Int} {k : Nat} {x : Int} {y : Nat} (hx : c[k]? = some x) (hy : o[k]? = some y) (h : (y : Int) ≤ x) : digB o c k = false := by simp [digB, hx, hy]; omega
theorem digB_true {o : List Nat} {c : List Int} {k : Nat} {x : Int} {y : Nat} (hx : c[k]? = some x) (hy : o[k]? = some y) (h0 : 0 ≤ x) (h : x < (y : Int)) : digB o c k = true := by simp [digB, hx, hy]; omega

set_option maxHeartbeats 800000 in
theorem validC_any {lo hi lo2 hi2 : Nat} {s : SrcV} {S : Src} {q : Option Addr} {m cap2 : Nat} {c : List Int} {w : World}
    (hs : RSrc lo hi w s S) (hc : SliceOf RInt 1 lo2 hi2 w q m cap2 c) (hhi : hi ≤ w.heap.size) (hhi2 : hi2 ≤ w.heap.size) :
    Calls Try.prog 16 #[.agg s.cells.toArray, .slice q m cap2] w fun e w' => e = .returned (.bool (permB S c)) ∧ Below w.heap.size w w' := by
  have hmm := hc.nle
  have hon := hs.op.nle
  have Hc := Lib.hid hc.len
  have Ho := Lib.hid hs.op.len
  obtain ⟨⟨up, un, uc⟩, ⟨ip, iN, ic⟩, ⟨pp, pn, pc⟩, ⟨mp, mn, mc⟩, ⟨op, on, oc⟩, ⟨fp, fn, fc⟩, ⟨rp, rn, rc⟩, ⟨sp, sn, sc⟩⟩ := s
  dsimp only at hon Ho
  have hb0 : ∀ o1, Below w.heap.size w (w.alloc o1) := fun o1 => (Below.refl _ w).alloc (Nat.le_refl _) _
  have call := fun o1 => valid_any (hs.keep (Nat.le_refl _) (Nat.le_refl _) (Agree.of_below (hb0 o1) hhi)) (by simp; omega)
  cases hv : validB S with
  | false =>
    rw [hv] at call
    have Hf := Lib.hid (permB_invalid (c := c) hv)
    clear hv
    go_enter Try.func16, Try.ntmps16
    go_wp2_with fail
    refine (call _).mono ?_
    rintro e w1 ⟨rfl, hb⟩
    go_wp2_with fail
    go_ret
    exact ⟨ret_bool Hf.out.symm, (hb0 _).trans (hb.mono (by simp))⟩
  | true =>
    rw [hv] at call
    have Hv := Lib.hid hv; clear hv
    by_cases hml : m = on
    · subst hml
      have hne : ((m : Int) != (m : Int)) = false := by simp
      go_enter Try.func16, Try.ntmps16
      go_wp2_with fail
      refine (call _).mono ?_
      clear call
      rintro e w1 ⟨rfl, hb⟩
      obtain ⟨bc, bf⟩ := bcell hb
      have hbw : Below w.heap.size w w1 := (hb0 _).trans (hb.mono (by simp))
      have hz := hb.size
      simp only [World.size_alloc] at hz
      clear hb hb0
      have hsw := hs.keep (Nat.le_refl _) (Nat.le_refl _) (Agree.of_below hbw hhi)
      have hcw := hc.keep RInt.keeps (Nat.le_refl _) (Nat.le_refl _) (Agree.of_below hbw hhi2)
      go_wp2_with fail
      go_loop [20] (fun i => ∃ k : Nat, k ≤ m ∧ i = .int .i64 k ∧ Hid ((List.range k).all (digB S.options c) = true)) (fun i => m - (intOf i).toNat)
      case atStart => exact ⟨0, Nat.zero_le _, rfl, rfl⟩
      case round =>
        obtain ⟨k, hk, rfl, Hk⟩ := hrel
        by_cases hlt : k < m
        · obtain ⟨x, b1, o1, hx, rfl, _, hb1, x1, x2, c0⟩ := slice_int hcw hlt
          obtain ⟨y, b2, o2, nm, p', c', hy, hp, _, hb2, y1, d0, d1⟩ := slice_opt hsw.op hlt
          dsimp only at hp
          subst hp
          have Hx := Lib.hid hx; clear hx
          have Hy := Lib.hid hy; clear hy
          by_cases g1 : x < 0
          · have Hf := Lib.hid (permB_dig_false (inB_false (by rw [Hc.out]; exact hlt) (digB_neg (o := S.options) Hx.out g1)))
            go_wp2_with fail
            go_ret
            exact ⟨ret_bool Hf.out.symm, hbw⟩
          · have g1' : decide (x < 0) = false := by simpa using g1
            by_cases g2 : (y : Int) ≤ x
            · have Hf := Lib.hid (permB_dig_false (inB_false (by rw [Hc.out]; exact hlt) (digB_great Hx.out Hy.out g2)))
              go_wp2_with fail
              go_ret
              exact ⟨ret_bool Hf.out.symm, hbw⟩
            · have g2' : decide ((y : Int) ≤ x) = false := by simpa using g2
              have Hf := Lib.hid (range_step Hk.out (digB_true Hx.out Hy.out (by omega) (by omega)))
              go_wp2_with fail
              go_round
              case rel => exact ⟨k + 1, by omega, by go_num, Hf.out⟩
              case measure => simp [intOf]; omega
        · have hkm : k = m := by omega
          have Hf := Lib.hid (permB_eq Hv.out (by rw [Hc.out, Ho.out]) (by unfold inB; rw [Hc.out, ← hkm]; exact Hk.out))
          clear hkm
          go_wp2_with fail
          refine (permitted_any hsw hcw (by omega) (by omega)).mono ?_
          rintro e w2 ⟨rfl, hb2⟩
          go_wp2_with fail
          go_ret
          exact ⟨ret_bool Hf.out.symm, hbw.trans (hb2.mono hbw.size)⟩
    · have hne : ((m : Int) != (on : Int)) = true := by simp; omega
      have Hf := Lib.hid (permB_len (S := S) (c := c) (by rw [Hc.out, Ho.out]; exact hml))
      clear hml
      go_enter Try.func16, Try.ntmps16
      go_wp2_with fail
      refine (call _).mono ?_
      clear call
      rintro e w1 ⟨rfl, hb⟩
      obtain ⟨bc, bf⟩ := bcell hb
      have hbw : Below w.heap.size w w1 := (hb0 _).trans (hb.mono (by simp))
      clear hb hb0
      go_wp2_with fail
      go_ret
      exact ⟨ret_bool Hf.out.symm, hbw⟩
end Go.Proofs.Ytpbajggbinljiaa
