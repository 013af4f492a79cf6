/-
  Plain laws of options: a recipe divided into two by a day between its first and its last.
-/
import Derived.Test.YtpbajggbinljiaaOptLawC
import Derived.Test.YtpbajggbinljiaaOptSameHole
namespace Go.Proofs.Ytpbajggbinljiaa
set_option linter.unusedVariables false
set_option linter.unusedSimpArgs false
set_option linter.unnecessarySimpa false
set_option linter.unusedSectionVars false

/-- the recipe r at place k, divided at a day -/
def divS (S : Src) (k : Nat) (r : Rcp) (at' : Int) : Src := { S with recipes := ((S.recipes ++ [r]).set k { r with to := at' }).set S.recipes.length { r with frm := at' } }
theorem divS_recipes {S : Src} {k : Nat} {r : Rcp} {at' : Int} (hk : k < S.recipes.length) : (divS S k r at').recipes = S.recipes.set k { r with to := at' } ++ [{ r with frm := at' }] := by
  unfold divS
  simp only
  rw [List.set_append_left _ _ hk, List.set_append_right _ _ (by simp)]
  simp
theorem split_at {α : Type} {l : List α} {k : Nat} {x : α} (hx : l[k]? = some x) : l = l.take k ++ x :: l.drop (k + 1) := by
  have hlt := lt_of_some hx
  rw [List.getElem?_eq_getElem hlt] at hx
  injection hx with hx
  rw [← hx, ← List.drop_eq_getElem_cons hlt, List.take_append_drop]
theorem set_split {α : Type} {l : List α} {k : Nat} {x y : α} (hx : l[k]? = some x) : l.set k y = l.take k ++ y :: l.drop (k + 1) := by
  have hlt := lt_of_some hx
  rw [List.set_eq_take_append_cons_drop, if_pos hlt]

theorem appB_div {i p d : Int} {c : List Int} {r : Rcp} {at' : Int} (h1 : r.frm < at') (h2 : at' < r.to) :
    (if appB i p d c { r with to := at' } = true then 1 else 0) + (if appB i p d c { r with frm := at' } = true then 1 else 0) = (if appB i p d c r = true then 1 else 0 : Nat) := by
  unfold appB
  simp only
  by_cases hb : (r.item = i ∧ r.plant = p) ∧ holdB r.ifs c = true
  · obtain ⟨⟨rfl, rfl⟩, hc⟩ := hb
    simp only [hc, decide_true, Bool.true_and, Bool.and_true, Bool.and_eq_true, decide_eq_true_eq]
    by_cases hd : at' ≤ d
    · have e1 : ¬ d < at' := by omega
      have e2 : r.frm ≤ d := by omega
      simp [hd, e1, e2]
    · have e1 : d < at' := by omega
      have e2 : (d < r.to) := by omega
      simp [hd, e1, e2]
  · have hf : ∀ x y : Bool, (decide (r.item = i) && decide (r.plant = p) && x && y && holdB r.ifs c) = false := by
      intro x y
      rw [Bool.eq_false_iff]
      intro h
      simp only [Bool.and_eq_true, decide_eq_true_eq] at h
      exact hb ⟨⟨h.1.1.1.1, h.1.1.1.2⟩, h.2⟩
    simp [hf]
theorem whichTo_count (l : List Rcp) (i p d : Int) (c : List Int) : ∀ k, k ≤ l.length → (whichTo l i p d c k).length = (l.take k).countP (appB i p d c) := by
  intro k
  induction k with
  | zero => intro _; simp [whichTo]
  | succ k ih =>
    intro hk
    have hr : l[k]? = some l[k] := List.getElem?_eq_getElem (by omega)
    rw [take_succ_some hr, List.countP_append]
    cases ha : appB i p d c l[k] with
    | true => rw [whichTo_yes hr ha, List.length_append, ih (by omega)]; simp [ha]
    | false => rw [whichTo_no hr ha, ih (by omega)]; simp [ha]
theorem permB_div (S : Src) (k : Nat) (r : Rcp) (at' : Int) (c : List Int) : permB (divS S k r at') c = permB S c := rfl
theorem allL_div (S : Src) (k : Nat) (r : Rcp) (at' : Int) : allL (divS S k r at') = allL S := rfl
theorem allE_div (S : Src) (k : Nat) (r : Rcp) (at' : Int) : allE (divS S k r at') = allE S := rfl
theorem whichE_div (S : Src) (k : Nat) (r : Rcp) (at' : Int) (c : List Int) : whichE (divS S k r at') c = whichE S c := rfl
/-- as many recipes apply -/
theorem which_div {S : Src} {k : Nat} {r : Rcp} {at' : Int} (hr : S.recipes[k]? = some r) (h1 : r.frm < at') (h2 : at' < r.to) (i p d : Int) (c : List Int) : (whichL (divS S k r at') i p d c).length = (whichL S i p d c).length := by
  unfold whichL
  rw [permB_div]
  split
  · rw [whichTo_count _ _ _ _ _ _ (Nat.le_refl _), whichTo_count _ _ _ _ _ _ (Nat.le_refl _), List.take_length, List.take_length, divS_recipes (lt_of_some hr), set_split hr]
    conv => rhs; rw [split_at hr]
    have := appB_div (i := i) (p := p) (d := d) (c := c) h1 h2
    simp only [List.countP_append, List.countP_cons, List.countP_nil]
    omega
  · rfl
theorem badB_div {S : Src} {k : Nat} {r : Rcp} {at' : Int} (hr : S.recipes[k]? = some r) (h1 : r.frm < at') (h2 : at' < r.to) (p : Int × Int) (d : Int) (c : List Int) : badB (divS S k r at') p d c = badB S p d c := by
  unfold badB; rw [which_div hr h1 h2]
theorem mem_div {S : Src} {k : Nat} {r x : Rcp} {at' : Int} (hr : S.recipes[k]? = some r) : x ∈ (divS S k r at').recipes ↔ x ∈ S.recipes.take k ∨ x ∈ S.recipes.drop (k + 1) ∨ x = { r with to := at' } ∨ x = { r with frm := at' } := by
  rw [divS_recipes (lt_of_some hr), set_split hr]
  simp only [List.mem_append, List.mem_cons, List.mem_singleton, List.not_mem_nil, or_false]
  constructor
  · rintro ((h | h | h) | h)
    · exact .inl h
    · exact .inr (.inr (.inl h))
    · exact .inr (.inl h)
    · exact .inr (.inr (.inr h))
  · rintro (h | h | h | h)
    · exact .inl (.inl h)
    · exact .inl (.inr (.inr h))
    · exact .inl (.inr (.inl h))
    · exact .inr h
theorem mem_was {S : Src} {k : Nat} {r x : Rcp} (hr : S.recipes[k]? = some r) : x ∈ S.recipes ↔ x ∈ S.recipes.take k ∨ x ∈ S.recipes.drop (k + 1) ∨ x = r := by
  conv => lhs; rw [split_at hr]
  simp only [List.mem_append, List.mem_cons]
  constructor
  · rintro (h | h | h)
    · exact .inl h
    · exact .inr (.inr h)
    · exact .inr (.inl h)
  · rintro (h | h | h)
    · exact .inl h
    · exact .inr (.inr h)
    · exact .inr (.inl h)
theorem places_div {S : Src} {k : Nat} {r : Rcp} {at' : Int} (hr : S.recipes[k]? = some r) : placesL (divS S k r at') = placesL S := by
  refine eq_of_rising placeTotal (sortU_pairwise placeTotal _) (sortU_pairwise placeTotal _) fun p => ?_
  show p ∈ placesL (divS S k r at') ↔ p ∈ placesL S
  rw [mem_places, mem_places]
  have hrg : ∀ x, rangeB (divS S k r at') x = rangeB S x := fun _ => rfl
  simp only [hrg]
  constructor
  · rintro ⟨x, hx, h1, rfl⟩
    rcases (mem_div hr).1 hx with h | h | rfl | rfl
    · exact ⟨x, (mem_was hr).2 (.inl h), h1, rfl⟩
    · exact ⟨x, (mem_was hr).2 (.inr (.inl h)), h1, rfl⟩
    · exact ⟨r, (mem_was hr).2 (.inr (.inr rfl)), h1, rfl⟩
    · exact ⟨r, (mem_was hr).2 (.inr (.inr rfl)), h1, rfl⟩
  · rintro ⟨x, hx, h1, rfl⟩
    rcases (mem_was hr).1 hx with h | h | rfl
    · exact ⟨x, (mem_div hr).2 (.inl h), h1, rfl⟩
    · exact ⟨x, (mem_div hr).2 (.inr (.inl h)), h1, rfl⟩
    · exact ⟨_, (mem_div hr).2 (.inr (.inr (.inl rfl))), h1, rfl⟩
theorem changes_div {S : Src} {k : Nat} {r : Rcp} {at' : Int} (hr : S.recipes[k]? = some r) (p : Int × Int) (d : Int) : d ∈ changesL (divS S k r at') p ↔ d ∈ changesL S p ∨ (d = at' ∧ 0 < at' ∧ at' < 1024 ∧ atB p r = true) := by
  rw [mem_changes, mem_changes]
  constructor
  · rintro (h | ⟨h1, h2, x, hx, ha, hd⟩)
    · exact .inl (.inl h)
    · rcases (mem_div hr).1 hx with h | h | rfl | rfl
      · exact .inl (.inr ⟨h1, h2, x, (mem_was hr).2 (.inl h), ha, hd⟩)
      · exact .inl (.inr ⟨h1, h2, x, (mem_was hr).2 (.inr (.inl h)), ha, hd⟩)
      · rcases hd with hd | hd
        · exact .inl (.inr ⟨h1, h2, r, (mem_was hr).2 (.inr (.inr rfl)), ha, .inl hd⟩)
        · dsimp only at hd; subst hd; exact .inr ⟨rfl, h1, h2, ha⟩
      · rcases hd with hd | hd
        · dsimp only at hd; subst hd; exact .inr ⟨rfl, h1, h2, ha⟩
        · exact .inl (.inr ⟨h1, h2, r, (mem_was hr).2 (.inr (.inr rfl)), ha, .inr hd⟩)
  · rintro ((h | ⟨h1, h2, x, hx, ha, hd⟩) | ⟨rfl, h1, h2, ha⟩)
    · exact .inl h
    · refine .inr ⟨h1, h2, ?_⟩
      rcases (mem_was hr).1 hx with h | h | rfl
      · exact ⟨x, (mem_div hr).2 (.inl h), ha, hd⟩
      · exact ⟨x, (mem_div hr).2 (.inr (.inl h)), ha, hd⟩
      · rcases hd with hd | hd
        · exact ⟨_, (mem_div hr).2 (.inr (.inr (.inl rfl))), ha, .inl hd⟩
        · exact ⟨_, (mem_div hr).2 (.inr (.inr (.inr rfl))), ha, .inr hd⟩
    · exact .inr ⟨h1, h2, _, (mem_div hr).2 (.inr (.inr (.inr rfl))), ha, .inl rfl⟩
theorem holeC_div {S : Src} {k : Nat} {r : Rcp} {at' : Int} (hr : S.recipes[k]? = some r) (h1 : r.frm < at') (h2 : at' < r.to) (p : Int × Int) (d : Int) : holeC (divS S k r at') p d = holeC S p d := by
  unfold holeC
  rw [allL_div]
  congr 2
  funext c
  exact badB_div hr h1 h2 p d c

theorem findSome_rising {β : Type} {f : Int → Option β} {l : List Int} (h : l.Pairwise (· < ·)) (y : β) : l.findSome? f = some y ↔ ∃ d ∈ l, f d = some y ∧ ∀ d' ∈ l, d' < d → f d' = none := by
  induction l with
  | nil => simp
  | cons a l ih =>
    rw [List.pairwise_cons] at h
    rw [List.findSome?_cons]
    cases ha : f a with
    | some z =>
      simp only [Option.some.injEq]
      constructor
      · rintro rfl
        exact ⟨a, List.mem_cons_self, ha, fun d' hd' hlt => by
          rcases List.mem_cons.1 hd' with rfl | hd'
          · omega
          · have := h.1 d' hd'; omega⟩
      · rintro ⟨d, hd, hfd, hmin⟩
        rcases List.mem_cons.1 hd with rfl | hd
        · rw [ha] at hfd; injection hfd
        · have := hmin a List.mem_cons_self (h.1 d hd)
          rw [ha] at this; cases this
    | none =>
      simp only
      rw [ih h.2]
      constructor
      · rintro ⟨d, hd, hfd, hmin⟩
        exact ⟨d, List.mem_cons_of_mem _ hd, hfd, fun d' hd' hlt => by
          rcases List.mem_cons.1 hd' with rfl | hd'
          · exact ha
          · exact hmin d' hd' hlt⟩
      · rintro ⟨d, hd, hfd, hmin⟩
        rcases List.mem_cons.1 hd with rfl | hd
        · rw [ha] at hfd; cases hfd
        · exact ⟨d, hd, hfd, fun d' hd' hlt => hmin d' (List.mem_cons_of_mem _ hd') hlt⟩
theorem findSome_more {β : Type} {f : Int → Option β} {l l' : List Int} {a : Int} {P : Prop} (h : l.Pairwise (· < ·)) (h' : l'.Pairwise (· < ·)) (hm : ∀ d, d ∈ l' ↔ d ∈ l ∨ (d = a ∧ P)) (hf : P → (f a).isSome = true → a ∈ l ∨ ∃ d ∈ l, d < a ∧ (f d).isSome = true) : l'.findSome? f = l.findSome? f := by
  have key : ∀ y, l'.findSome? f = some y ↔ l.findSome? f = some y := by
    intro y
    rw [findSome_rising h, findSome_rising h']
    constructor
    · rintro ⟨d, hd, hfd, hmin⟩
      have hdl : d ∈ l := by
        rcases (hm d).1 hd with h1 | ⟨rfl, hP⟩
        · exact h1
        · rcases hf hP (by rw [hfd]; rfl) with h1 | ⟨d0, h0, hlt, hs⟩
          · exact h1
          · have := hmin d0 ((hm d0).2 (.inl h0)) hlt
            rw [this] at hs; cases hs
      exact ⟨d, hdl, hfd, fun d' hd' hlt => hmin d' ((hm d').2 (.inl hd')) hlt⟩
    · rintro ⟨d, hd, hfd, hmin⟩
      refine ⟨d, (hm d).2 (.inl hd), hfd, fun d' hd' hlt => ?_⟩
      rcases (hm d').1 hd' with h1 | ⟨rfl, hP⟩
      · exact hmin d' h1 hlt
      · cases hfa : f d' with
        | none => rfl
        | some z =>
          rcases hf hP (by rw [hfa]; rfl) with h1 | ⟨d0, h0, hlt0, hs⟩
          · have := hmin d' h1 hlt; rw [hfa] at this; cases this
          · have := hmin d0 h0 (by omega); rw [this] at hs; cases hs
  cases h1 : l'.findSome? f with
  | some y => exact ((key y).1 h1).symm
  | none =>
    cases h2 : l.findSome? f with
    | none => rfl
    | some y => rw [(key y).2 h2] at h1; cases h1
theorem holeD_div {S : Src} {k : Nat} {r : Rcp} {at' : Int} (hr : S.recipes[k]? = some r) (h1 : r.frm < at') (h2 : at' < r.to) (p : Int × Int) : holeD (divS S k r at') p = holeD S p := by
  unfold holeD
  have e : holeC (divS S k r at') p = holeC S p := by funext d; exact holeC_div hr h1 h2 p d
  rw [e]
  refine findSome_more (a := at') (P := 0 < at' ∧ at' < 1024 ∧ atB p r = true) (sortU_pairwise intTotal _) (sortU_pairwise intTotal _) (fun d => changes_div hr p d) ?_
  rintro ⟨p1, p2, _⟩ hs
  obtain ⟨d0, hd0, hle, hmax⟩ := last_change (changesL S p) at' ⟨0, changes_zero _ _, by omega⟩
  by_cases he : d0 = at'
  · subst he; exact .inl hd0
  · refine .inr ⟨d0, hd0, by omega, ?_⟩
    unfold holeC at hs ⊢
    rw [Option.isSome_map, List.find?_isSome] at hs ⊢
    obtain ⟨c, hc, hb⟩ := hs
    refine ⟨c, hc, ?_⟩
    unfold badB at hb ⊢
    rw [← whichL_day (p := p.2) (i := p.1) (changes_range hd0).1 p2 hle hmax]
    exact hb
theorem holeOf_div {S : Src} {k : Nat} {r : Rcp} {at' : Int} (hr : S.recipes[k]? = some r) (h1 : r.frm < at') (h2 : at' < r.to) : holeOf (divS S k r at') = holeOf S := by
  unfold holeOf
  rw [places_div hr]
  congr 1
  funext p
  exact holeD_div hr h1 h2 p
theorem holeV_div {S : Src} {k : Nat} {r : Rcp} {at' : Int} (hr : S.recipes[k]? = some r) (h1 : r.frm < at') (h2 : at' < r.to) : holeV (divS S k r at') = holeV S := by
  unfold holeV
  rw [holeOf_div hr h1 h2]
  cases holeOf S with
  | none => rfl
  | some x => obtain ⟨p, d, c⟩ := x; simp only; rw [which_div hr h1 h2]
end Go.Proofs.Ytpbajggbinljiaa
