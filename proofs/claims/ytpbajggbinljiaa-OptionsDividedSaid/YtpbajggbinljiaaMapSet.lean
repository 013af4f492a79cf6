/-
  A map to booleans as the set of its keys: 'KeySet', its laws (made, a key stored), the iterator that maps.Keys makes of it (the contract 'SeqP'), at whatever key type whose keys are laid out by 'KeyFit'.
-/
import Derived.Test.YtpbajggbinljiaaRangeP
import Derived.Maps.OwnIn
import Derived.DeepKeys4
namespace Go.Proofs.Ytpbajggbinljiaa
set_option linter.unusedVariables false
set_option linter.unusedSimpArgs false
set_option linter.unnecessarySimpa false
set_option linter.unusedSectionVars false
open Go.RowKit Go.Shelf Go.Maps

/-- The keys of type k are the values 'key x', where 'ok x'. -/
structure KeyFit {α : Type} (k : TypeId) (key : α → Value) (ok : α → Prop) : Prop where
  keyed : Keyed Try.prog k
  made : ∀ x, ok x → ∃ l, keyOf Try.prog k (key x) = some l
  inv : ∀ v l, keyOf Try.prog k v = some l → ∃ x, ok x ∧ v = key x
  inj : ∀ x y, key x = key y → x = y

/-- Block b is a map over the key type k, of no more than n keys; the keys are those of S. -/
def KeySet {α : Type} (k e : TypeId) (key : α → Value) (w : World) (b n : Nat) (S : α → Prop) : Prop :=
  ∃ D : DataW Unit, w.ownsMap Try.prog k (plainElem Try.prog e) b n D ∧ ∀ x l, keyOf Try.prog k (key x) = some l → (Maps.has D l = true ↔ S x)

section
variable {α : Type} {k e : TypeId} {key : α → Value} {ok : α → Prop} {w : World} {b n : Nat} {S : α → Prop}
theorem KeySet.lt (h : KeySet k e key w b n S) : b < w.heap.size := by obtain ⟨D, h, _⟩ := h; exact h.lt
theorem KeySet.kept {w' : World} {row : Option Nat} (h : KeySet k e key w b n S) (hg : w.grownBy w' row) (hne : some b ≠ row) : KeySet k e key w' b n S := by
  obtain ⟨D, h, hS⟩ := h; exact ⟨D, h.kept hg hne, hS⟩
theorem KeySet.mono {n' : Nat} (h : KeySet k e key w b n S) (hn : n ≤ n') : KeySet k e key w b n' S := by
  obtain ⟨D, h, hS⟩ := h; exact ⟨D, h.mono hn, hS⟩
theorem KeySet.block {w' : World} (h : KeySet k e key w b n S) (hb : w'.heap[b]? = w.heap[b]?) : KeySet k e key w' b n S := by
  obtain ⟨D, ⟨es, clock, h1, F, h2, h3⟩, hS⟩ := h; exact ⟨D, ⟨es, clock, hb.trans h1, F, h2, h3⟩, hS⟩
theorem KeySet.congr {S' : α → Prop} (h : KeySet k e key w b n S) (hS : ∀ x, S x ↔ S' x) : KeySet k e key w b n S' := by
  obtain ⟨D, h, h1⟩ := h; exact ⟨D, h, fun x l hl => (h1 x l hl).trans (hS x)⟩
theorem KeySet.made (w : World) (k e : TypeId) (key : α → Value) : KeySet k e key (w.alloc (.map #[] 0)) w.heap.size 0 (fun _ => False) :=
  ⟨.map [], World.ownsMap_made w _ k _, fun x l _ => by simp [Maps.has_eq]⟩

/-- a key is stored -/
theorem KeySet.insert {t : TypeId} (F : KeyFit k key ok) (ht : Try.prog.underlying t = some (.map k e)) (he : Try.prog.underlying e = some .bool) (h : KeySet k e key w b n S) (hn : n < maxLen) {x : α} (hx : ok x) :
    ∃ w', (Instr.mapUpdate t (.map (some b)) (key x) (.bool true)).run Try.prog w = .ok () w' ∧ KeySet k e key w' b (n + 1) (fun y => y = x ∨ S y) ∧ w.grownBy w' (some b) := by
  obtain ⟨D, h, hS⟩ := h
  obtain ⟨l, hl⟩ := F.made x hx
  obtain ⟨w', hr, h2, h3⟩ := h.update (H := Unit) F.keyed ht hn hl (plainElem_bool he true)
  refine ⟨w', hr, ⟨_, h2, fun y l' hl' => ?_⟩, h3⟩
  by_cases hxy : l' = l
  · subst hxy
    obtain ⟨es, rfl, _⟩ := h.entries F.keyed
    have e1 : y = x := F.inj _ _ (F.keyed.inj hl' hl)
    rw [has_put_same ⟨_, rfl⟩ (F.keyed.key hl)]
    simp [e1]
  · rw [has_put_other hxy, hS y l' hl']
    constructor
    · exact .inr
    · rintro (rfl | h)
      · rw [hl] at hl'; injection hl' with hl'; exact absurd hl'.symm hxy
      · exact h

theorem wpList_set_insert {ops : Array Oper} {rest : List Oper} {o : Oper} {a : Act} {Q : Exit → Act → World → Prop} (hg : o.guard = none) (m x v : Operand) (t : TypeId) (hop : o.op = Op.mapUpdate t m x v ∨ o.op = Op.insert t m x v)
    (F : KeyFit k key ok) (ht : Try.prog.underlying t = some (.map k e)) (he : Try.prog.underlying e = some .bool) (hm : a.eval m = .map (some b)) (h : KeySet k e key w b n S) (hn : n < maxLen) (y : α) (hy : ok y) (hx : a.eval x = key y) (hv : a.eval v = .bool true)
    (hK : ∀ w', KeySet k e key w' b (n + 1) (fun z => z = y ∨ S z) → w.grownBy w' (some b) → wpList Try.prog ops Q rest (a.put o.dst undef) w') :
    wpList Try.prog ops Q (o :: rest) a w := by
  refine wpList_plain hg fun K' hK' => ?_
  obtain ⟨w', hrun, r1, r2⟩ := h.insert F ht he hn hy
  unfold Oper.wp
  rcases hop with hop | hop
  · simp [execOp, hop, hm, hx, hv, hrun, Result.andThen]
    exact hK' _ _ (hK w' r1 r2)
  · simp [execOp, hop, hm, hx, hv, hrun, Result.andThen]
    exact hK' _ _ (hK w' r1 r2)
end

/-! ### the iterator of maps.Keys -/
theorem ranges_block {H : Type} {P : Program} {k : TypeId} {R : Value → Option (DataW H × List MemPlace)} {w w' : World} {b r n : Nat} {D : DataW H} {left : Lit → Bool} {cnt : Nat} (h : w.ranges P k R b r n D left cnt)
    (hb : w'.heap[b]? = w.heap[b]?) (hr : w'.heap[r]? = w.heap[r]?) : w'.ranges P k R b r n D left cnt := by
  obtain ⟨es, clock, since, seen, c0, h1, F, hs, hD, h2, rest⟩ := h
  exact ⟨es, clock, since, seen, c0, hb.trans h1, F, hs, hD, hr.trans h2, rest⟩
/-- what has come of the keys -/
def Come {α : Type} (k : TypeId) (key : α → Value) (S : α → Prop) (left : Lit → Bool) (ss : List α) : Prop :=
  ss.Nodup ∧ ∀ x, x ∈ ss ↔ (S x ∧ ∃ l, keyOf Try.prog k (key x) = some l ∧ left l = false)
/-- all keys, in some order -/
def AllKeys {α : Type} (k : TypeId) (key : α → Value) (S : α → Prop) (ss : List α) : Prop := ss.Nodup ∧ ∀ x, x ∈ ss ↔ (S x ∧ ∃ l, keyOf Try.prog k (key x) = some l)
section
variable {α : Type} {k e : TypeId} {key : α → Value} {ok : α → Prop} {S : α → Prop} {D : DataW Unit} {left : Lit → Bool} {ss : List α}
theorem Come.start (hS : ∀ x l, keyOf Try.prog k (key x) = some l → (Maps.has D l = true ↔ S x)) : Come k key S (Maps.has D) [] := by
  refine ⟨List.nodup_nil, fun x => ⟨fun h => by simp at h, ?_⟩⟩
  rintro ⟨h1, l, h2, h3⟩
  have := (hS x l h2).2 h1
  rw [h3] at this
  cases this
theorem Come.step (F : KeyFit k key ok) (hS : ∀ x l, keyOf Try.prog k (key x) = some l → (Maps.has D l = true ↔ S x)) (h : Come k key S left ss) {x : α} {l : Lit} {y : DataW Unit} (hl : keyOf Try.prog k (key x) = some l) (hlk : left l = true) (hat : ∀ zd, D.atKey l zd = y) :
    Come k key S (fun z => left z && !z.sameKey l) (ss ++ [x]) := by
  have hhas : S x := (hS x l hl).1 (Maps.has_true_of_atKey hat)
  have hnew : x ∉ ss := fun hx => by
    obtain ⟨_, l', h1, h2⟩ := (h.2 x).1 hx
    rw [hl] at h1; injection h1 with h1
    rw [← h1, hlk] at h2; cases h2
  refine ⟨List.nodup_append.2 ⟨h.1, by simp, fun a ha b hb => by simp at hb; subst hb; exact fun e => hnew (e ▸ ha)⟩, fun z => ?_⟩
  rw [List.mem_append, h.2 z, List.mem_singleton]
  constructor
  · rintro (⟨h1, l', h2, h3⟩ | rfl)
    · exact ⟨h1, l', h2, by simp [h3]⟩
    · exact ⟨hhas, l, hl, by simp [hlk, WideAt.sameKey_self (F.keyed.key hl)]⟩
  · rintro ⟨h1, l', h2, h3⟩
    simp only [Bool.and_eq_false_imp, Bool.not_eq_eq_eq_not, Bool.not_false] at h3
    cases hz : left l' with
    | false => exact .inl ⟨h1, l', h2, hz⟩
    | true =>
      refine .inr (F.inj _ _ (F.keyed.inj h2 ?_))
      rw [WideAt.sameKey_eq (h3 hz)]; exact hl
theorem Come.done (h : Come k key S left ss) (hl : ∀ l, left l = false) : AllKeys k key S ss :=
  ⟨h.1, fun x => (h.2 x).trans ⟨fun ⟨h1, l, h2, _⟩ => ⟨h1, l, h2⟩, fun ⟨h1, l, h2⟩ => ⟨h1, l, h2, hl l⟩⟩⟩
end
end Go.Proofs.Ytpbajggbinljiaa
