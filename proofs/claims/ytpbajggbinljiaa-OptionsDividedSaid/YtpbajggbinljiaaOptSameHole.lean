/-
  backflushref13.SameHole: whether two holes are alike.
-/
import Derived.Test.YtpbajggbinljiaaOptLawFns
namespace Go.Proofs.Ytpbajggbinljiaa
set_option linter.unusedVariables false
set_option linter.unusedSimpArgs false
set_option linter.unnecessarySimpa false
set_option linter.unusedSectionVars false
open Go.RowKit Go.Shelf

def sameHoleB (a b : HoleV) : Bool := decide (a.item = b.item) && decide (a.plant = b.plant) && decide (a.day = b.day) && decide (a.config = b.config) && decide (a.many = b.many)

set_option maxHeartbeats 1600000 in
theorem sameHole_any {lo hi lo2 hi2 : Nat} {u v : Value} {a b : HoleV} {w : World} (hu : RHole lo hi w u a) (hv : RHole lo2 hi2 w v b) (hhi : hi ≤ w.heap.size) (hhi2 : hi2 ≤ w.heap.size) :
    Calls Try.prog 24 #[u, v] w fun e w' => e = .returned (.bool (sameHoleB a b)) ∧ Below w.heap.size w w' := by
  obtain ⟨a1, a2, a3, ac, a4⟩ := a
  obtain ⟨b1, b2, b3, bc, b4⟩ := b
  obtain ⟨p, n, c, rfl, hp, i1, i2, i3, i4⟩ := hu
  obtain ⟨q, m, d, rfl, hq, j1, j2, j3, j4⟩ := hv
  dsimp only at i1 i2 i3 i4 j1 j2 j3 j4 hp hq
  unfold IsI64 at i1 i2 i3 i4 j1 j2 j3 j4
  have hb0 : ∀ o1 o2, Below w.heap.size w ((w.alloc o1).alloc o2) := fun o1 o2 => ((Below.refl _ w).alloc (Nat.le_refl _) _).alloc (by simp) _
  have call := fun o1 o2 => sameInts_any (hp.keep RInt.keeps (Nat.le_refl _) (Nat.le_refl _) (Agree.of_below (hb0 o1 o2) hhi)) (hq.keep RInt.keeps (Nat.le_refl _) (Nat.le_refl _) (Agree.of_below (hb0 o1 o2) hhi2)) (by simp; omega) (by simp; omega)
  have no : ∀ {x : Bool}, x = false → Hid (x = false) := fun h => h
  have HB := Lib.hid hb0
  clear hp hq hb0
  by_cases g1 : a1 = b1
  · have e1 : (a1 == b1) = true := by simpa using g1
    by_cases g2 : a2 = b2
    · have e2 : (a2 == b2) = true := by simpa using g2
      by_cases g3 : a3 = b3
      · have e3 : (a3 == b3) = true := by simpa using g3
        by_cases g4 : ac = bc
        · rw [show decide (ac = bc) = true by simpa using g4] at call
          by_cases g5 : a4 = b4
          · have e5 : (a4 == b4) = true := by simpa using g5
            have HF : Hid (sameHoleB ⟨a1, a2, a3, ac, a4⟩ ⟨b1, b2, b3, bc, b4⟩ = true) := by show _ = _; simp [sameHoleB, g1, g2, g3, g4, g5]
            clear g1 g2 g3 g4 g5
            go_enter Try.func24, Try.ntmps24
            go_wp2_with fail
            refine (call _ _).mono ?_
            rintro e w1 ⟨rfl, k, rfl⟩
            go_wp2_with fail
            go_ret
            exact ⟨ret_bool HF.out.symm, below_drewN (HB.out _ _) _⟩
          · have e5 : (a4 == b4) = false := by simpa using g5
            have HF : Hid (sameHoleB ⟨a1, a2, a3, ac, a4⟩ ⟨b1, b2, b3, bc, b4⟩ = false) := by show _ = _; simp [sameHoleB, g5]
            clear g1 g2 g3 g4 g5
            go_enter Try.func24, Try.ntmps24
            go_wp2_with fail
            refine (call _ _).mono ?_
            rintro e w1 ⟨rfl, k, rfl⟩
            go_wp2_with fail
            go_ret
            exact ⟨ret_bool HF.out.symm, below_drewN (HB.out _ _) _⟩
        · rw [show decide (ac = bc) = false by simpa using g4] at call
          have HF : Hid (sameHoleB ⟨a1, a2, a3, ac, a4⟩ ⟨b1, b2, b3, bc, b4⟩ = false) := by show _ = _; simp [sameHoleB, g4]
          clear g1 g2 g3 g4
          go_enter Try.func24, Try.ntmps24
          go_wp2_with fail
          refine (call _ _).mono ?_
          rintro e w1 ⟨rfl, k, rfl⟩
          go_wp2_with fail
          go_ret
          exact ⟨ret_bool HF.out.symm, below_drewN (HB.out _ _) _⟩
      · have e3 : (a3 == b3) = false := by simpa using g3
        have HF : Hid (sameHoleB ⟨a1, a2, a3, ac, a4⟩ ⟨b1, b2, b3, bc, b4⟩ = false) := by show _ = _; simp [sameHoleB, g3]
        clear g1 g2 g3 call
        go_enter Try.func24, Try.ntmps24
        go_wp2_with fail
        go_ret
        exact ⟨ret_bool HF.out.symm, HB.out _ _⟩
    · have e2 : (a2 == b2) = false := by simpa using g2
      have HF : Hid (sameHoleB ⟨a1, a2, a3, ac, a4⟩ ⟨b1, b2, b3, bc, b4⟩ = false) := by show _ = _; simp [sameHoleB, g2]
      clear g1 g2 call
      go_enter Try.func24, Try.ntmps24
      go_wp2_with fail
      go_ret
      exact ⟨ret_bool HF.out.symm, HB.out _ _⟩
  · have e1 : (a1 == b1) = false := by simpa using g1
    have HF : Hid (sameHoleB ⟨a1, a2, a3, ac, a4⟩ ⟨b1, b2, b3, bc, b4⟩ = false) := by show _ = _; simp [sameHoleB, g1]
    clear g1 call
    go_enter Try.func24, Try.ntmps24
    go_wp2_with fail
    go_ret
    exact ⟨ret_bool HF.out.symm, HB.out _ _⟩
end Go.Proofs.Ytpbajggbinljiaa
