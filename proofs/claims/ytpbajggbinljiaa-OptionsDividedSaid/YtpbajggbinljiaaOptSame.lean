/-
  The reference's equality of lists of ints, and of lists of configurations, computes equality of what is read.
-/
import Derived.Test.YtpbajggbinljiaaOptRep
namespace Go.Proofs.Ytpbajggbinljiaa
set_option linter.unusedVariables false
set_option linter.unusedSimpArgs false
set_option linter.unnecessarySimpa false
set_option linter.unusedSectionVars false
open Go.RowKit

/-- the world after some draws -/
def Drawn (w w' : World) : Prop := ∃ m, w' = w.drewN m
theorem Drawn.refl (w : World) : Drawn w w := ⟨0, rfl⟩
theorem Drawn.drewN {a w : World} (h : Drawn a w) (n : Nat) : Drawn a (w.drewN n) := by
  obtain ⟨m, rfl⟩ := h
  exact ⟨m + n, by rw [World.drewN_drewN]⟩
theorem Drawn.below {B : Nat} {w w' : World} (h : Drawn w w') : Below B w w' := by obtain ⟨m, rfl⟩ := h; exact below_drewN (Below.refl _ _) m
theorem Drawn.size {w w' : World} (h : Drawn w w') : w.heap.size = w'.heap.size := by obtain ⟨m, rfl⟩ := h; simp

theorem eqB_len {α : Type} [DecidableEq α] {a b : List α} (h : a.length ≠ b.length) : decide (a = b) = false := by
  simp; intro e; exact h (by rw [e])
theorem eqB_at {α : Type} [DecidableEq α] {a b : List α} {k : Nat} {x y : α} (hx : a[k]? = some x) (hy : b[k]? = some y) (h : x ≠ y) : decide (a = b) = false := by
  simp; intro e; subst e; rw [hx] at hy; exact h (by simpa using hy)
theorem eqB_step {α : Type} {a b : List α} {k : Nat} {x y : α} (hx : a[k]? = some x) (hy : b[k]? = some y) (h : x = y) (hk : a.take k = b.take k) : a.take (k + 1) = b.take (k + 1) := by
  rw [take_succ_some hx, take_succ_some hy, hk, h]
theorem eqB_end {α : Type} [DecidableEq α] {a b : List α} {k : Nat} (ha : a.length ≤ k) (hb : b.length ≤ k) (hk : a.take k = b.take k) : decide (a = b) = true := by
  rw [List.take_of_length_le ha, List.take_of_length_le hb] at hk; simp [hk]

set_option maxHeartbeats 400000 in
theorem sameInts_any {lo hi lo2 hi2 : Nat} {p : Option Addr} {n cap : Nat} {a : List Int} {q : Option Addr} {m cap2 : Nat} {b : List Int} {w : World}
    (ha : SliceOf RInt 1 lo hi w p n cap a) (hb : SliceOf RInt 1 lo2 hi2 w q m cap2 b) (hhi : hi ≤ w.heap.size) (hhi2 : hi2 ≤ w.heap.size) :
    Calls Try.prog 19 #[.slice p n cap, .slice q m cap2] w fun e w' => e = .returned (.bool (decide (a = b))) ∧ Drawn w w' := by
  have hn := ha.nle
  have hm := hb.nle
  have Ha := Lib.hid ha.len
  have Hb := Lib.hid hb.len
  by_cases hnm : n = m
  · subst hnm
    have hne : ((n : Int) != (n : Int)) = false := by simp
    go_enter Try.func19, Try.ntmps19
    go_wp2
    go_loopw [5] (fun i wr => ∃ k : Nat, k ≤ n ∧ i = .int .i64 k ∧ Hid (a.take k = b.take k) ∧ Drawn w wr) (fun i _ => n - (intOf i).toNat)
    case atStart => exact ⟨0, Nat.zero_le _, rfl, rfl, Drawn.refl _⟩
    case round =>
      obtain ⟨k, hk, rfl, Hk, hd⟩ := hrel
      have hz := hd.size
      by_cases hlt : k < n
      · obtain ⟨x, b1, o1, hx, rfl, _, hb1, x1, x2, c0⟩ := slice_int (ha.keep RInt.keeps (Nat.le_refl _) (Nat.le_refl _) (Agree.of_below hd.below (Nat.le_refl _))) hlt
        obtain ⟨y, b2, o2, hy, rfl, _, hb2, y1, y2, d0⟩ := slice_int (hb.keep RInt.keeps (Nat.le_refl _) (Nat.le_refl _) (Agree.of_below hd.below (Nat.le_refl _))) hlt
        have Hx := Lib.hid hx; clear hx
        have Hy := Lib.hid hy; clear hy
        by_cases g : x = y
        · have g1 : (x == y) = true := by simpa using g
          have g2 : (x != y) = false := by simpa using g
          have Hf := Lib.hid (eqB_step Hx.out Hy.out g Hk.out)
          clear g
          go_wp2
          go_quiet (fail)
          go_wp2
          go_roundw
          case rel => exact ⟨k + 1, by omega, by go_num, Hf.out, hd.drewN _⟩
          case measure => simp [intOf]; omega
        · have g1 : (x == y) = false := by simpa using g
          have g2 : (x != y) = true := by simpa using g
          have Hf := Lib.hid (eqB_at Hx.out Hy.out g)
          clear g
          go_wp2
          go_quiet (fail)
          go_wp2
          go_ret
          exact ⟨ret_bool Hf.out.symm, hd.drewN _⟩
      · have Hf := Lib.hid (eqB_end (by rw [Ha.out]; omega) (by rw [Hb.out]; omega) Hk.out)
        go_wp2
        go_ret
        exact ⟨ret_bool Hf.out.symm, hd⟩
  · have hne : ((n : Int) != (m : Int)) = true := by simp; omega
    have Hf := Lib.hid (eqB_len (a := a) (b := b) (by rw [Ha.out, Hb.out]; exact hnm))
    clear hnm
    go_enter Try.func19, Try.ntmps19
    go_wp2
    go_ret
    exact ⟨ret_bool Hf.out.symm, Drawn.refl _⟩

theorem slice_ints {lo hi : Nat} {w : World} {p : Option Addr} {n cap : Nat} {l : List (List Int)} (h : SliceOf (RSlice RInt 1) 1 lo hi w p n cap l) {k : Nat} (hk : k < n) :
    ∃ (x : List Int) (b off : Nat) (p' : Option Addr) (n' cap' : Nat), l[k]? = some x ∧ p = some ⟨b, off, none⟩ ∧ lo ≤ b ∧ b < hi ∧ w.cell? ⟨b, off + k, none⟩ = some (.slice p' n' cap') ∧ SliceOf RInt 1 lo hi w p' n' cap' x := by
  obtain ⟨x, b, off, vs, hx, hp, h1, h2, ⟨p', n', cap', rfl, hs⟩, _, hc⟩ := slice_elem h hk
  exact ⟨x, b, off, p', n', cap', hx, hp, h1, h2, by simpa using hc 0 _ rfl, hs⟩

set_option maxHeartbeats 400000 in
theorem same_any {lo hi lo2 hi2 : Nat} {p : Option Addr} {n cap : Nat} {a : List (List Int)} {q : Option Addr} {m cap2 : Nat} {b : List (List Int)} {w : World}
    (ha : SliceOf (RSlice RInt 1) 1 lo hi w p n cap a) (hb : SliceOf (RSlice RInt 1) 1 lo2 hi2 w q m cap2 b) (hhi : hi ≤ w.heap.size) (hhi2 : hi2 ≤ w.heap.size) :
    Calls Try.prog 18 #[.slice p n cap, .slice q m cap2] w fun e w' => e = .returned (.bool (decide (a = b))) ∧ Drawn w w' := by
  have hn := ha.nle
  have hm := hb.nle
  have Ha := Lib.hid ha.len
  have Hb := Lib.hid hb.len
  by_cases hnm : n = m
  · subst hnm
    have hne : ((n : Int) != (n : Int)) = false := by simp
    go_enter Try.func18, Try.ntmps18
    go_wp2
    go_loopw [5] (fun i wr => ∃ k : Nat, k ≤ n ∧ i = .int .i64 k ∧ Hid (a.take k = b.take k) ∧ Drawn w wr) (fun i _ => n - (intOf i).toNat)
    case atStart => exact ⟨0, Nat.zero_le _, rfl, rfl, Drawn.refl _⟩
    case round =>
      obtain ⟨k, hk, rfl, Hk, hd⟩ := hrel
      have hz := hd.size
      by_cases hlt : k < n
      · obtain ⟨x, b1, o1, p1, n1, k1, hx, rfl, _, hb1, c0, hxs⟩ := slice_ints (ha.keep (RSlice.keeps RInt.keeps 1) (Nat.le_refl _) (Nat.le_refl _) (Agree.of_below hd.below (Nat.le_refl _))) hlt
        obtain ⟨y, b2, o2, p2, n2, k2, hy, rfl, _, hb2, d0, hys⟩ := slice_ints (hb.keep (RSlice.keeps RInt.keeps 1) (Nat.le_refl _) (Nat.le_refl _) (Agree.of_below hd.below (Nat.le_refl _))) hlt
        have Hx := Lib.hid hx; clear hx
        have Hy := Lib.hid hy; clear hy
        have call : ∀ nq, Calls Try.prog 19 #[.slice p1 n1 k1, .slice p2 n2 k2] (wr.drewN nq) fun e w' => e = .returned (.bool (decide (x = y))) ∧ ∃ m, w' = (wr.drewN nq).drewN m :=
          fun nq => sameInts_any (hxs.keep RInt.keeps (Nat.le_refl _) (Nat.le_refl _) (Agree.of_below (below_drewN (Below.refl hi wr) nq) (Nat.le_refl _))) (hys.keep RInt.keeps (Nat.le_refl _) (Nat.le_refl _) (Agree.of_below (below_drewN (Below.refl hi2 wr) nq) (Nat.le_refl _))) (by simp; omega) (by simp; omega)
        by_cases g : x = y
        · have g1 : decide (x = y) = true := by simpa using g
          rw [g1] at call
          have Hf := Lib.hid (eqB_step Hx.out Hy.out g Hk.out)
          clear g g1 hxs hys
          go_wp2_with fail
          go_quiet ((go_at_call 19; exact Calls.quiet_of (call _)))
          clear call
          go_wp2
          go_roundw
          case rel => exact ⟨k + 1, by omega, by go_num, Hf.out, hd.drewN _⟩
          case measure => simp [intOf]; omega
        · have g1 : decide (x = y) = false := by simpa using g
          rw [g1] at call
          have Hf := Lib.hid (eqB_at Hx.out Hy.out g)
          clear g g1 hxs hys
          go_wp2_with fail
          go_quiet ((go_at_call 19; exact Calls.quiet_of (call _)))
          clear call
          go_wp2
          go_ret
          exact ⟨ret_bool Hf.out.symm, hd.drewN _⟩
      · have Hf := Lib.hid (eqB_end (by rw [Ha.out]; omega) (by rw [Hb.out]; omega) Hk.out)
        go_wp2
        go_ret
        exact ⟨ret_bool Hf.out.symm, hd⟩
  · have hne : ((n : Int) != (m : Int)) = true := by simp; omega
    have Hf := Lib.hid (eqB_len (a := a) (b := b) (by rw [Ha.out, Hb.out]; exact hnm))
    clear hnm
    go_enter Try.func18, Try.ntmps18
    go_wp2
    go_ret
    exact ⟨ret_bool Hf.out.symm, Drawn.refl _⟩
end Go.Proofs.Ytpbajggbinljiaa
