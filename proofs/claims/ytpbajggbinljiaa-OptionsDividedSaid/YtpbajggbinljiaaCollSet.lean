/-
  A list that the call collects ('Coll'): its block, its cells; one field of one element set anew.
-/
import Derived.Test.YtpbajggbinljiaaMany
namespace Go.Proofs.Ytpbajggbinljiaa
set_option linter.unusedVariables false
set_option linter.unusedSimpArgs false
set_option linter.unnecessarySimpa false
set_option linter.unusedSectionVars false
open Go.RowKit

section
variable {α : Type} {R : Rel α} {size : Nat} {e : TypeId} {B : Nat} {X : Nat → Prop} {w : World} {v : Value} {L : List α}
theorem Coll.shape (h : Coll R size e B X w v L) (hL : L ≠ []) : ∃ g cap, v = .slice (some ⟨g, 0, none⟩) L.length cap ∧ B ≤ g ∧ g < w.heap.size ∧ ¬ X g ∧ L.length ≤ cap ∧ cap ≤ 9223372036854775807 ∧ ∀ j, w.frozen? ⟨g, j, none⟩ = false := by
  obtain ⟨xs, ⟨h1, h2⟩, hn, _⟩ := h
  rcases h2 with ⟨rfl, h0⟩ | ⟨g, cap, cur, rfl, hb, hg, hnc, hcm, hcs, ht⟩
  · exact absurd (List.eq_nil_of_length_eq_zero h0) hL
  · refine ⟨g, cap, rfl, hb, (Array.getElem?_eq_some_iff.1 hg).1, hn g rfl, hnc, by unfold maxLen at hcm; omega, fun j => ?_⟩
    simp [World.frozen?, hg]
theorem Coll.cellAt {g n cap : Nat} (h : Coll R size e B X w (.slice (some ⟨g, 0, none⟩) n cap) L) {k : Nat} {x : α} (hk : L[k]? = some x) :
    ∃ vs lo hi, R lo hi w x vs ∧ vs.length = size ∧ ∀ j u, vs[j]? = some u → w.cell? ⟨g, k * size + j, none⟩ = some u := by
  obtain ⟨xs, ho, _, hx⟩ := h
  obtain ⟨vs, lo, hi, hr, hl, _, _, _, hc⟩ := hx k x hk
  refine ⟨vs, lo, hi, hr, hl, fun j u hj => ?_⟩
  have := ho.cells (g := g) rfl _ u (hc j u hj)
  rwa [addr_add0, Nat.zero_add] at this
theorem Coll.setField (hR : Keeps R) {g n cap : Nat} (h : Coll R size e B X w (.slice (some ⟨g, 0, none⟩) n cap) L) {k j : Nat} {x y : α} (hk : L[k]? = some x) (hj : j < size) (u : Value)
    (hu : ∀ lo hi w' vs, R lo hi w' x vs → vs.length = size → R lo hi w' y (vs.set j u)) : Coll R size e B X (w.setCell ⟨g, k * size + j, none⟩ u) (.slice (some ⟨g, 0, none⟩) n cap) (L.set k y) := by
  obtain ⟨xs, ⟨h1, h2⟩, hn, hx⟩ := h
  have hkL := lt_of_some hk
  have hidx : k * size + j < L.length * size := by
    have : k * size + size ≤ L.length * size := by rw [← Nat.succ_mul]; exact Nat.mul_le_mul_right _ hkL
    omega
  have hag : ∀ lo hi, g < lo ∨ hi ≤ g → Agree lo hi w (w.setCell ⟨g, k * size + j, none⟩ u) := fun lo hi hd => (Agree.refl lo hi w).setCell (p := ⟨g, k * size + j, none⟩) (by show g < lo ∨ hi ≤ g; exact hd) u
  refine ⟨xs.set (k * size + j) u, ⟨by rw [List.length_set, List.length_set]; exact h1, ?_⟩, hn, fun i z hi => ?_⟩
  · rw [List.length_set]
    rcases h2 with ⟨hv, _⟩ | ⟨g', cap', cur, hv, hb, hg, hnc, hcm, hcs, ht⟩
    · cases hv
    · simp only [Value.slice.injEq, Option.some.injEq, Addr.mk.injEq] at hv
      obtain ⟨⟨rfl, _, _⟩, rfl, rfl⟩ := hv
      refine .inr ⟨g, cap, cur.setIfInBounds (k * size + j) u, rfl, hb, by simp [World.setCell, Array.getElem?_modify, hg], hnc, hcm, by simp [hcs], ?_⟩
      rw [Array.toList_setIfInBounds, List.take_set, ht]
  · rw [List.getElem?_set] at hi
    split at hi
    · rename_i hki
      subst hki
      simp only [hkL, if_true, Option.some.injEq] at hi
      subst hi
      obtain ⟨vs, lo, hi', hr, hl, q1, q2, q3, q4⟩ := hx k x hk
      refine ⟨vs.set j u, lo, hi', hu _ _ _ _ (hR _ _ _ _ _ _ _ _ (Nat.le_refl _) (Nat.le_refl _) (hag _ _ (q3 g (.inl rfl))) hr) hl, by rw [List.length_set]; exact hl, q1, by simpa [World.setCell] using q2, q3, fun j' u' hj' => ?_⟩
      rw [List.getElem?_set] at hj' ⊢
      by_cases hjj : j = j'
      · subst hjj
        rw [if_pos rfl, hl, if_pos hj] at hj'
        rw [if_pos rfl, if_pos (by omega)]
        exact hj'
      · rw [if_neg hjj] at hj'
        rw [if_neg (by omega)]
        exact q4 j' u' hj'
    · rename_i hki
      obtain ⟨vs, lo, hi', hr, hl, q1, q2, q3, q4⟩ := hx i z hi
      refine ⟨vs, lo, hi', hR _ _ _ _ _ _ _ _ (Nat.le_refl _) (Nat.le_refl _) (hag _ _ (q3 g (.inl rfl))) hr, hl, q1, by simpa [World.setCell] using q2, q3, fun j' u' hj' => ?_⟩
      have hj's : j' < size := by have := lt_of_some hj'; omega
      rw [List.getElem?_set, if_neg]
      · exact q4 j' u' hj'
      · intro he
        have h3 : k < i ∨ i < k := by omega
        rcases h3 with h3 | h3
        · have : k * size + size ≤ i * size := by rw [← Nat.succ_mul]; exact Nat.mul_le_mul_right _ h3
          omega
        · have : i * size + size ≤ k * size := by rw [← Nat.succ_mul]; exact Nat.mul_le_mul_right _ h3
          omega
end
end Go.Proofs.Ytpbajggbinljiaa
