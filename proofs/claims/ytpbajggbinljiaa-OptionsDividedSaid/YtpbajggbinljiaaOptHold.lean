/-
  The Go functions options.hold and backflushref13.hold return 'holdB' of what they are handed.
-/
import Derived.Test.YtpbajggbinljiaaOptRep
namespace Go.Proofs.Ytpbajggbinljiaa
set_option linter.unusedVariables false
set_option linter.unusedSimpArgs false
set_option linter.unnecessarySimpa false
set_option linter.unusedSectionVars false
open Go.RowKit

set_option maxHeartbeats 400000 in
theorem hold_any {lo hi lo2 hi2 : Nat} {p : Option Addr} {n cap : Nat} {l : List Cnd} {q : Option Addr} {m cap2 : Nat} {c : List Int} {w : World}
    (hl : SliceOf RCnd 4 lo hi w p n cap l) (hc : SliceOf RInt 1 lo2 hi2 w q m cap2 c) (hhi : hi ≤ w.heap.size) (hhi2 : hi2 ≤ w.heap.size) :
    Calls Try.prog 37 #[.slice p n cap, .slice q m cap2] w fun e w' => e = .returned (.bool (holdB l c)) ∧ Below w.heap.size w w' := by
  have hn := hl.nle
  have hm := hc.nle
  have Hl := Lib.hid hl.len
  have Hc := Lib.hid hc.len
  go_enter Try.func37, Try.ntmps37
  go_wp2
  go_loopw [9] (fun i wr => ∃ k : Nat, k ≤ n ∧ i = .int .i64 k ∧ Hid (holdB (l.take k) c = true) ∧ Below w.heap.size w wr) (fun i _ => n - (intOf i).toNat)
  case atStart => exact ⟨0, Nat.zero_le _, rfl, rfl, Below.refl _ _⟩
  case round =>
    obtain ⟨k, hk, rfl, Hk, hb⟩ := hrel
    have hz := hb.size
    by_cases hlt : k < n
    · obtain ⟨x, b, off, o, d, hx, rfl, _, hbh, x1, x2, x3, x4, c0, c1, c2, c3⟩ := slice_cnd (hl.keep RCnd.keeps (Nat.le_refl _) (Nat.le_refl _) (Agree.of_below hb hhi)) hlt
      have Hx := Lib.hid hx; clear hx
      have hbw : b < wr.heap.size := by omega
      by_cases g1 : x.on < 0
      · have Hf := Lib.hid (holdB_false Hx.out (cndB_neg (c := c) g1))
        go_wp2
        go_quiet (fail)
        go_wp2
        go_ret
        exact ⟨ret_bool Hf.out.symm, below_drewN (hb.alloc hb.size _) _⟩
      · have g1' : decide (x.on < 0) = false := by simpa using g1
        by_cases g2 : (m : Int) ≤ x.on
        · have Hf := Lib.hid (holdB_false Hx.out (cndB_great (c := c) (by rw [Hc.out]; exact g2)))
          go_wp2
          go_quiet (fail)
          go_wp2
          go_ret
          exact ⟨ret_bool Hf.out.symm, below_drewN (hb.alloc hb.size _) _⟩
        · have g2' : decide ((m : Int) ≤ x.on) = false := by simpa using g2
          have g3 : x.on < (m : Int) := by omega
          have g4 : 0 ≤ x.on := by omega
          obtain ⟨v, b2, off2, hv, rfl, _, hbh2, v1, v2, d0⟩ := slice_int (hc.keep RInt.keeps (Nat.le_refl _) (Nat.le_refl _) (Agree.of_below hb hhi2)) (k := x.on.toNat) (by omega)
          have Hv := Lib.hid hv; clear hv
          have hbw2 : b2 < wr.heap.size := by omega
          by_cases g5 : v = x.cn
          · have g5' : (v == x.cn) = true := by simpa using g5
            have g6' : (v != x.cn) = false := by simpa using g5
            have Hf := Lib.hid (holdB_step Hx.out (cndB_true g4 (by rw [Hc.out]; exact g3) (by rw [Hv.out, g5])) Hk.out)
            clear g5
            go_wp2
            go_quiet (fail)
            go_wp2
            go_roundw
            case rel => exact ⟨k + 1, by omega, by go_num, Hf.out, below_drewN (hb.alloc hb.size _) _⟩
            case measure => simp [intOf]; omega
          · have g5' : (v == x.cn) = false := by simpa using g5
            have g6' : (v != x.cn) = true := by simpa using g5
            have Hf := Lib.hid (holdB_false Hx.out (cndB_ne Hv.out g5))
            clear g5
            go_wp2
            go_quiet (fail)
            go_wp2
            go_ret
            exact ⟨ret_bool Hf.out.symm, below_drewN (hb.alloc hb.size _) _⟩
    · have Hf := Hk.out
      rw [List.take_of_length_le (by rw [Hl.out]; omega)] at Hf
      have Hf' := Lib.hid Hf; clear Hf
      go_wp2
      go_ret
      exact ⟨ret_bool Hf'.out.symm, hb⟩
end Go.Proofs.Ytpbajggbinljiaa
