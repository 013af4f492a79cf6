/-
  Plain: the strictly rising list of what a list holds, and that sorting whatever list without repetition that holds the same gives it.
-/
import Derived.Test.YtpbajggbinljiaaMem
namespace Go.Proofs.Ytpbajggbinljiaa
set_option linter.unusedVariables false
set_option linter.unusedSimpArgs false
set_option linter.unnecessarySimpa false
set_option linter.unusedSectionVars false

section
variable {α : Type} (lt : α → α → Prop) [DecidableRel lt]
def insU (x : α) : List α → List α
  | [] => [x]
  | y :: l => if lt x y then x :: y :: l else if lt y x then y :: insU x l else y :: l
def sortU (l : List α) : List α := l.foldr (insU lt) []
structure StrictTotal : Prop where
  irrefl : ∀ x, ¬ lt x x
  trans : ∀ x y z, lt x y → lt y z → lt x z
  total : ∀ x y, ¬ lt x y → ¬ lt y x → x = y
variable {lt}
theorem mem_insU (T : StrictTotal lt) {x y : α} : ∀ {l : List α}, y ∈ insU lt x l ↔ y = x ∨ y ∈ l
  | [] => by simp [insU]
  | z :: l => by
    unfold insU
    split
    · simp
    · split
      · rw [List.mem_cons, mem_insU T, List.mem_cons]
        constructor
        · rintro (h | h | h) <;> simp [h]
        · rintro (h | h | h) <;> simp [h]
      · rename_i h1 h2
        have := T.total x z h1 h2
        subst this
        simp
theorem mem_sortU (T : StrictTotal lt) {y : α} : ∀ {l : List α}, y ∈ sortU lt l ↔ y ∈ l
  | [] => by simp [sortU]
  | x :: l => by
    show y ∈ insU lt x (sortU lt l) ↔ _
    rw [mem_insU T, mem_sortU T, List.mem_cons]
theorem insU_pairwise (T : StrictTotal lt) {x : α} : ∀ {l : List α}, l.Pairwise lt → (insU lt x l).Pairwise lt
  | [], _ => by simp [insU]
  | y :: l, h => by
    obtain ⟨h1, h2⟩ := List.pairwise_cons.1 h
    unfold insU
    split
    · rename_i hxy
      refine List.pairwise_cons.2 ⟨fun z hz => ?_, h⟩
      rcases List.mem_cons.1 hz with rfl | hz
      · exact hxy
      · exact T.trans _ _ _ hxy (h1 z hz)
    · split
      · rename_i hyx
        refine List.pairwise_cons.2 ⟨fun z hz => ?_, insU_pairwise T h2⟩
        rcases (mem_insU T).1 hz with rfl | hz
        · exact hyx
        · exact h1 z hz
      · exact h
theorem sortU_pairwise (T : StrictTotal lt) : ∀ (l : List α), (sortU lt l).Pairwise lt
  | [] => by simp [sortU]
  | x :: l => insU_pairwise T (sortU_pairwise T l)
theorem pairwise_nodup (T : StrictTotal lt) {l : List α} (h : l.Pairwise lt) : l.Nodup := h.imp fun {a b} hab e => by subst e; exact T.irrefl _ hab
theorem eq_of_rising (T : StrictTotal lt) {l l' : List α} (h : l.Pairwise lt) (h' : l'.Pairwise lt) (hm : ∀ x, x ∈ l ↔ x ∈ l') : l = l' := by
  have hp : l.Perm l' := (List.perm_ext_iff_of_nodup (pairwise_nodup T h) (pairwise_nodup T h')).2 hm
  exact List.Perm.eq_of_pairwise (le := lt) (fun a b _ _ h1 h2 => absurd (T.trans _ _ _ h1 h2) (T.irrefl _)) h h' hp
theorem mergeSort_eq (T : StrictTotal lt) {xs l : List α} (hn : xs.Nodup) (hm : ∀ x, x ∈ xs ↔ x ∈ l) {le : α → α → Bool} (hle : ∀ x y, le x y = true ↔ ¬ lt y x) : xs.mergeSort le = sortU lt l := by
  have hp := List.mergeSort_perm xs le
  have hs : (xs.mergeSort le).Pairwise fun a b => le a b = true := List.pairwise_mergeSort (le := le)
    (fun a b c h1 h2 => by
      rw [hle] at *
      intro h3
      by_cases h4 : lt b a
      · exact h1 h4
      · by_cases h5 : lt a b
        · exact h2 (T.trans _ _ _ h3 h5)
        · have := T.total a b h5 h4
          subst this
          exact h2 h3)
    (fun a b => by
      rw [Bool.or_eq_true, hle, hle]
      by_cases h : lt b a
      · exact .inr fun h2 => T.irrefl _ (T.trans _ _ _ h h2)
      · exact .inl h) xs
  have hn2 : (xs.mergeSort le).Nodup := hp.nodup_iff.2 hn
  refine eq_of_rising T ?_ (sortU_pairwise T l) (fun x => by rw [hp.mem_iff, hm, mem_sortU T])
  have h2 : (xs.mergeSort le).Pairwise fun a b => le a b = true ∧ a ≠ b := hs.and hn2
  refine h2.imp fun {a b} h => ?_
  by_cases h3 : lt a b
  · exact h3
  · exact absurd (T.total a b h3 ((hle _ _).1 h.1)) h.2
end
theorem intTotal : StrictTotal (fun x y : Int => x < y) := ⟨fun x => by omega, fun x y z => by omega, fun x y => by omega⟩
end Go.Proofs.Ytpbajggbinljiaa
