/-
  Plain laws of options: a further element of the forbidden lists.
-/
import Derived.Test.YtpbajggbinljiaaOptHole
import Derived.Test.YtpbajggbinljiaaOptLawA
namespace Go.Proofs.Ytpbajggbinljiaa
set_option linter.unusedVariables false
set_option linter.unusedSimpArgs false
set_option linter.unnecessarySimpa false
set_option linter.unusedSectionVars false

theorem allE_eq0 (S : Src) : (allE S == 0) = validB S := by unfold allE; cases validB S <;> rfl
def addF (S : Src) (l : List Cnd) : Src := { S with forbids := S.forbids ++ [l] }
theorem permB_addF (S : Src) (l : List Cnd) (c : List Int) : permB (addF S l) c = (permB S c && !holdB l c) := by
  unfold permB addF anyB validB
  simp [List.any_append, Bool.not_or, Bool.and_assoc]
theorem allL_addF (S : Src) (l : List Cnd) : allL (addF S l) = (allL S).filter fun c => !holdB l c := by
  unfold allL
  have e : validB (addF S l) = validB S := rfl
  rw [e]
  split
  · unfold allUpto
    rw [List.filter_filter]
    have : (addF S l).options.length = S.options.length := rfl
    rw [this]
    congr 1
    funext c
    rw [permB_addF, Bool.and_comm]
  · rfl
theorem allE_addF (S : Src) (l : List Cnd) : allE (addF S l) = allE S := rfl
theorem hole_some {S : Src} : (holeOf S).isSome = true ↔ ∃ p ∈ placesL S, ∃ d ∈ changesL S p, ∃ c ∈ allL S, badB S p d c = true := by
  unfold holeOf
  rw [List.findSome?_isSome_iff]
  constructor
  · rintro ⟨p, hp, h⟩
    unfold holeD at h
    rw [List.findSome?_isSome_iff] at h
    obtain ⟨d, hd, h⟩ := h
    unfold holeC at h
    rw [Option.isSome_map, List.find?_isSome] at h
    obtain ⟨c, hc, h⟩ := h
    exact ⟨p, hp, d, hd, c, hc, h⟩
  · rintro ⟨p, hp, d, hd, c, hc, h⟩
    refine ⟨p, hp, ?_⟩
    unfold holeD
    rw [List.findSome?_isSome_iff]
    refine ⟨d, hd, ?_⟩
    unfold holeC
    rw [Option.isSome_map, List.find?_isSome]
    exact ⟨c, hc, h⟩
theorem hole_addF {S : Src} {l : List Cnd} (h : (holeOf (addF S l)).isSome = true) : (holeOf S).isSome = true := by
  rw [hole_some] at h ⊢
  obtain ⟨p, hp, d, hd, c, hc, hb⟩ := h
  have hpc := mem_allL.1 hc
  have hps : permB S c = true := by rw [permB_addF, Bool.and_eq_true] at hpc; exact hpc.1
  refine ⟨p, hp, d, hd, c, mem_allL.2 hps, ?_⟩
  unfold badB whichL at hb ⊢
  rw [hpc] at hb
  rw [hps]
  exact hb
/-- `before || !after` -/
theorem hole_addF_or (S : Src) (l : List Cnd) : ((holeOf S).isSome || !(holeOf (addF S l)).isSome) = true := by
  cases h : (holeOf (addF S l)).isSome with
  | false => simp
  | true => rw [hole_addF h]; rfl
theorem filter_get {α : Type} {p : α → Bool} {l : List α} {k : Nat} {x : α} (hx : l[k]? = some x) (hp : p x = true) : (l.filter p)[((l.take k).filter p).length]? = some x := by
  have hlt := lt_of_some hx
  have e : l = l.take k ++ x :: l.drop (k + 1) := by
    rw [List.getElem?_eq_getElem hlt] at hx
    injection hx with hx
    rw [← hx, ← List.drop_eq_getElem_cons hlt, List.take_append_drop]
  have e2 : l.filter p = (l.take k).filter p ++ x :: (l.drop (k + 1)).filter p := by
    conv => lhs; rw [e]
    rw [List.filter_append, List.filter_cons, if_pos hp]
  rw [e2, List.getElem?_append_right (Nat.le_refl _), Nat.sub_self]; rfl
theorem filter_no {α : Type} {p : α → Bool} {l : List α} {k : Nat} {x : α} (hx : l[k]? = some x) (hp : p x = false) : (l.take (k + 1)).filter p = (l.take k).filter p := by
  rw [take_succ_some hx, List.filter_append]; simp [hp]
theorem filter_yes {α : Type} {p : α → Bool} {l : List α} {k : Nat} {x : α} (hx : l[k]? = some x) (hp : p x = true) : ((l.take (k + 1)).filter p).length = ((l.take k).filter p).length + 1 := by
  rw [take_succ_some hx, List.filter_append]; simp [hp]
end Go.Proofs.Ytpbajggbinljiaa
