/-
  Plain laws of options: where there is no hole, exactly one recipe applies to what is made, on every day; a hole that is found is one.
-/
import Derived.Test.YtpbajggbinljiaaOptLawB
import Derived.Test.YtpbajggbinljiaaOptLawFns
namespace Go.Proofs.Ytpbajggbinljiaa
set_option linter.unusedVariables false
set_option linter.unusedSimpArgs false
set_option linter.unnecessarySimpa false
set_option linter.unusedSectionVars false

theorem mem_places {S : Src} {p : Int × Int} : p ∈ placesL S ↔ ∃ r ∈ S.recipes, rangeB S r = true ∧ placeOf r = p := by
  unfold placesL
  rw [mem_sortU placeTotal, List.mem_map]
  constructor
  · rintro ⟨r, hr, rfl⟩; rw [List.mem_filter] at hr; exact ⟨r, hr.1, hr.2, rfl⟩
  · rintro ⟨r, hr, h, rfl⟩; exact ⟨r, List.mem_filter.2 ⟨hr, h⟩, rfl⟩
theorem mem_changes {S : Src} {p : Int × Int} {d : Int} : d ∈ changesL S p ↔ d = 0 ∨ (0 < d ∧ d < 1024 ∧ ∃ r ∈ S.recipes, atB p r = true ∧ (d = r.frm ∨ d = r.to)) := by
  unfold changesL
  rw [mem_sortU intTotal]
  unfold dayL
  rw [List.mem_cons, List.mem_flatMap]
  constructor
  · rintro (h | ⟨r, hr, hd⟩)
    · exact .inl h
    · rw [List.mem_filter] at hr hd
      simp only [dayB, Bool.and_eq_true, decide_eq_true_eq, List.mem_cons, List.not_mem_nil, or_false] at hd
      exact .inr ⟨hd.2.1, hd.2.2, r, hr.1, hr.2, hd.1⟩
  · rintro (h | ⟨h1, h2, r, hr, ha, hd⟩)
    · exact .inl h
    · refine .inr ⟨r, List.mem_filter.2 ⟨hr, ha⟩, List.mem_filter.2 ⟨by simpa using hd, ?_⟩⟩
      simp only [dayB, Bool.and_eq_true, decide_eq_true_eq]
      exact ⟨h1, h2⟩
theorem changes_zero (S : Src) (p : Int × Int) : 0 ∈ changesL S p := mem_changes.2 (.inl rfl)
theorem changes_range {S : Src} {p : Int × Int} {d : Int} (h : d ∈ changesL S p) : 0 ≤ d ∧ d < 1024 := by
  rcases mem_changes.1 h with rfl | ⟨h1, h2, _⟩
  · omega
  · omega
theorem placeOf_range {S : Src} {r : Rcp} (h : rangeB S r = true) : (0 ≤ r.item ∧ r.item < (S.items : Int)) ∧ 0 ≤ r.plant ∧ r.plant < (S.plants : Int) := by
  simp only [rangeB, Bool.and_eq_true, decide_eq_true_eq] at h
  exact ⟨⟨h.1.1.1, h.1.1.2⟩, h.1.2, h.2⟩

/-- a hole that is found -/
theorem hole_is {S : Src} {p : Int × Int} {d : Int} {c : List Int} (h : holeOf S = some (p, d, c)) :
    permB S c = true ∧ (whichL S p.1 p.2 d c).length ≠ 1 ∧ (0 ≤ p.1 ∧ p.1 < (S.items : Int)) ∧ (0 ≤ p.2 ∧ p.2 < (S.plants : Int)) ∧ (0 ≤ d ∧ d < 1024) ∧ makesB S p.1 p.2 = true := by
  unfold holeOf at h
  obtain ⟨p', hp', h1⟩ := List.exists_of_findSome?_eq_some h
  unfold holeD at h1
  obtain ⟨d', hd', h2⟩ := List.exists_of_findSome?_eq_some h1
  unfold holeC at h2
  rw [Option.map_eq_some_iff] at h2
  obtain ⟨c', hc', e⟩ := h2
  simp only [Prod.mk.injEq] at e
  obtain ⟨rfl, rfl, rfl⟩ := e
  have hb := List.find?_some hc'
  have hm := List.mem_of_find?_eq_some hc'
  obtain ⟨r, hr, hrg, rfl⟩ := mem_places.1 hp'
  obtain ⟨k1, k2⟩ := placeOf_range hrg
  refine ⟨mem_allL.1 hm, by simpa [badB] using hb, k1, k2, changes_range hd', ?_⟩
  unfold makesB
  rw [List.any_eq_true]
  exact ⟨r, hr, by simp [atB, placeOf]⟩

/-- the latest change up to a day -/
theorem last_change (l : List Int) (d : Int) : (∃ x ∈ l, x ≤ d) → ∃ x ∈ l, x ≤ d ∧ ∀ y ∈ l, y ≤ d → y ≤ x := by
  induction l with
  | nil => rintro ⟨x, hx, _⟩; cases hx
  | cons a l ih =>
    rintro ⟨x, hx, hxd⟩
    by_cases hl : ∃ x ∈ l, x ≤ d
    · obtain ⟨m, hm, hmd, hmax⟩ := ih hl
      by_cases ha : a ≤ d ∧ m < a
      · exact ⟨a, List.mem_cons_self, ha.1, fun y hy hyd => by
          rcases List.mem_cons.1 hy with rfl | hy
          · omega
          · have := hmax y hy hyd; omega⟩
      · exact ⟨m, List.mem_cons_of_mem _ hm, hmd, fun y hy hyd => by
          rcases List.mem_cons.1 hy with rfl | hy
          · omega
          · exact hmax y hy hyd⟩
    · rcases List.mem_cons.1 hx with rfl | hx
      · exact ⟨x, List.mem_cons_self, hxd, fun y hy hyd => by
          rcases List.mem_cons.1 hy with rfl | hy
          · omega
          · exact absurd ⟨y, hy, hyd⟩ hl⟩
      · exact absurd ⟨x, hx, hxd⟩ hl
/-- up to the next change the same recipes apply -/
theorem same_force {S : Src} {p : Int × Int} {d d0 : Int} {r : Rcp} (hr : r ∈ S.recipes) (ha : atB p r = true) (h0 : 0 ≤ d0) (hd : d < 1024) (hdd : d0 ≤ d) (hmax : ∀ y ∈ changesL S p, y ≤ d → y ≤ d0) :
    ((r.frm ≤ d ∧ d < r.to) ↔ (r.frm ≤ d0 ∧ d0 < r.to)) := by
  have key : ∀ x, (x = r.frm ∨ x = r.to) → x ≤ d → x ≤ d0 := fun x hx hxd => by
    rcases Int.lt_or_le d0 x with h | h
    · exact hmax x (mem_changes.2 (.inr ⟨by omega, by omega, r, hr, ha, hx⟩)) hxd
    · exact h
  have k1 := key r.frm (.inl rfl)
  have k2 := key r.to (.inr rfl)
  constructor
  · rintro ⟨h1, h2⟩; exact ⟨k1 h1, by omega⟩
  · rintro ⟨h1, h2⟩
    refine ⟨by omega, ?_⟩
    rcases Int.lt_or_le d r.to with h | h
    · exact h
    · have := k2 h; omega
theorem whichTo_congr {l : List Rcp} {i1 p1 d1 i2 p2 d2 : Int} {c1 c2 : List Int} {k : Nat} (h : ∀ r ∈ l, appB i1 p1 d1 c1 r = appB i2 p2 d2 c2 r) : whichTo l i1 p1 d1 c1 k = whichTo l i2 p2 d2 c2 k := by
  unfold whichTo
  congr 1
  funext i
  cases hi : l[i]? with
  | none => rfl
  | some r => simp only [Option.any_some, h r (List.mem_of_getElem? hi)]
theorem whichL_day {S : Src} {i p d d0 : Int} {c : List Int} (h0 : 0 ≤ d0) (hd : d < 1024) (hdd : d0 ≤ d) (hmax : ∀ y ∈ changesL S (i, p), y ≤ d → y ≤ d0) : whichL S i p d c = whichL S i p d0 c := by
  unfold whichL
  split
  · refine whichTo_congr fun r hr => ?_
    unfold appB
    by_cases ha : r.item = i ∧ r.plant = p
    · have := same_force (p := (i, p)) hr (by simp [atB, ha]) h0 hd hdd hmax
      have e : (decide (r.frm ≤ d) && decide (d < r.to)) = (decide (r.frm ≤ d0) && decide (d0 < r.to)) := by
        rw [← Bool.decide_and, ← Bool.decide_and]; exact decide_eq_decide.2 this
      simp only [ha, decide_true, Bool.true_and]
      rw [e]
    · have : (decide (r.item = i) && decide (r.plant = p)) = false := by
        rw [← Bool.decide_and]; exact decide_eq_false ha
      rw [this]; simp
  · rfl
theorem mem_which {l : List Rcp} {i p d : Int} {c : List Int} {n : Nat} {v : Int} (h : v ∈ whichTo l i p d c n) : ∃ (k : Nat) (r : Rcp), v = (k : Int) ∧ k < n ∧ l[k]? = some r ∧ appB i p d c r = true := by
  unfold whichTo at h
  rw [List.mem_filterMap] at h
  obtain ⟨k, hk, h2⟩ := h
  split at h2
  · rename_i h3
    cases hr : l[k]? with
    | none => rw [hr] at h3; cases h3
    | some r => rw [hr] at h3; injection h2 with h2; exact ⟨k, r, h2.symm, List.mem_range.1 hk, hr, h3⟩
  · cases h2
/-- what is not made -/
theorem which_nothing {S : Src} {i p d : Int} {c : List Int} (h : makesB S i p = false) : whichL S i p d c = [] := by
  unfold whichL
  split
  · refine List.eq_nil_iff_forall_not_mem.2 fun v hv => ?_
    obtain ⟨k, r, _, _, hr, ha⟩ := mem_which hv
    unfold makesB at h
    rw [List.any_eq_false] at h
    refine h r (List.mem_of_getElem? hr) ?_
    simp only [appB, Bool.and_eq_true, decide_eq_true_eq] at ha
    simp [atB, ha.1.1.1.1, ha.1.1.1.2]
  · rfl
/-- **no hole: exactly one** -/
theorem which_one {S : Src} {i p d : Int} {c : List Int} (hn : (holeOf S).isSome = false) (hc : permB S c = true) (h1 : 0 ≤ i ∧ i < (S.items : Int)) (h2 : 0 ≤ p ∧ p < (S.plants : Int)) (h3 : 0 ≤ d ∧ d < 1024) (hm : makesB S i p = true) :
    ∃ (k : Nat) (r : Rcp), whichL S i p d c = [(k : Int)] ∧ S.recipes[k]? = some r ∧ r.item = i ∧ r.plant = p := by
  unfold makesB at hm
  rw [List.any_eq_true] at hm
  obtain ⟨r, hr, ha⟩ := hm
  have ha' := ha
  simp only [atB, Bool.and_eq_true, decide_eq_true_eq] at ha'
  have hp : (i, p) ∈ placesL S := mem_places.2 ⟨r, hr, by simp [rangeB, ha'.1, ha'.2, h1, h2], by simp [placeOf, ha'.1, ha'.2]⟩
  obtain ⟨d0, hd0, hle, hmax⟩ := last_change (changesL S (i, p)) d ⟨0, changes_zero _ _, h3.1⟩
  have hlen : (whichL S i p d0 c).length = 1 := by
    by_cases hl : (whichL S i p d0 c).length = 1
    · exact hl
    · have : (holeOf S).isSome = true := hole_some.2 ⟨(i, p), hp, d0, hd0, c, mem_allL.2 hc, by simp [badB, hl]⟩
      rw [this] at hn; cases hn
  rw [whichL_day (changes_range hd0).1 h3.2 hle hmax]
  obtain ⟨v, hv⟩ := List.length_eq_one_iff.1 hlen
  have hmem : v ∈ whichTo S.recipes i p d0 c S.recipes.length := by
    have : v ∈ whichL S i p d0 c := by rw [hv]; exact List.mem_singleton.2 rfl
    unfold whichL at this
    rw [if_pos hc] at this
    exact this
  obtain ⟨k, r', rfl, _, hr', hap⟩ := mem_which hmem
  simp only [appB, Bool.and_eq_true, decide_eq_true_eq] at hap
  exact ⟨k, r', hv, hr', hap.1.1.1.1, hap.1.1.1.2⟩
end Go.Proofs.Ytpbajggbinljiaa
