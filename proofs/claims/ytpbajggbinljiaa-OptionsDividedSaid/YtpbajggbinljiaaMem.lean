/-
  What slices in memory hold, said once: 'SliceOf R sz lo hi w p n cap l': the slice .slice p n cap reads, in world w, as the list l, through blocks lo .. hi-1; and that it reads so in every later world in which these blocks are as they were.
-/
import Derived.Test.YtpbajggbinljiaaProg
import Derived.WalkKit
import Derived.WalkSpells
import Derived.WalkLawsBesides
import Derived.Lib.Hide
import Derived.Deep.QuietTactic
import Derived.BigQuiet
import Derived.Deep.OwnRows
namespace Go.Proofs.Ytpbajggbinljiaa
set_option linter.unusedVariables false
set_option linter.unusedSimpArgs false
set_option linter.unnecessarySimpa false
set_option linter.unusedSectionVars false
open Go.RowKit

/-- The blocks lo .. hi-1 are alike in two worlds. -/
def Agree (lo hi : Nat) (w w' : World) : Prop := ∀ b, lo ≤ b → b < hi → w'.heap[b]? = w.heap[b]?
theorem Agree.refl (lo hi : Nat) (w : World) : Agree lo hi w w := fun _ _ _ => rfl
theorem Agree.trans {lo hi : Nat} {a b c : World} (h : Agree lo hi a b) (k : Agree lo hi b c) : Agree lo hi a c := fun i h1 h2 => (k i h1 h2).trans (h i h1 h2)
theorem Agree.sub {lo hi lo' hi' : Nat} {a b : World} (h : Agree lo hi a b) (h1 : lo ≤ lo') (h2 : hi' ≤ hi) : Agree lo' hi' a b := fun i k1 k2 => h i (by omega) (by omega)
theorem Agree.of_below {lo hi B : Nat} {a b : World} (h : Below B a b) (hB : hi ≤ B) : Agree lo hi a b := fun i _ k2 => h.block i (by omega)
theorem Agree.setCell {lo hi : Nat} {a b : World} (h : Agree lo hi a b) {p : Addr} (hp : p.block < lo ∨ hi ≤ p.block) (u : Value) : Agree lo hi a (b.setCell p u) :=
  fun i k1 k2 => (Below.heap_setCell b p u i (by omega)).trans (h i k1 k2)

/-- An element x : α reads as the cells vs, through the blocks lo .. hi-1. -/
abbrev Rel (α : Type) := Nat → Nat → World → α → List Value → Prop
/-- .. and does so wherever these blocks are alike. -/
def Keeps {α : Type} (R : Rel α) : Prop := ∀ lo hi lo' hi' w w' x vs, lo' ≤ lo → hi ≤ hi' → Agree lo hi w w' → R lo hi w x vs → R lo' hi' w' x vs

structure SliceOf {α : Type} (R : Rel α) (sz lo hi : Nat) (w : World) (p : Option Addr) (n cap : Nat) (l : List α) : Prop where
  len : l.length = n
  le : n ≤ cap
  max : cap ≤ 9223372036854775807
  get : ∀ i x, l[i]? = some x → ∃ b off vs, p = some ⟨b, off, none⟩ ∧ lo ≤ b ∧ b < hi ∧ R lo hi w x vs ∧ vs.length = sz ∧ ∀ j u, vs[j]? = some u → w.cell? ⟨b, off + i * sz + j, none⟩ = some u

theorem SliceOf.keep {α : Type} {R : Rel α} (hR : Keeps R) {sz lo hi lo' hi' : Nat} {w w' : World} {p : Option Addr} {n cap : Nat} {l : List α} (h : SliceOf R sz lo hi w p n cap l)
    (h1 : lo' ≤ lo) (h2 : hi ≤ hi') (ha : Agree lo hi w w') : SliceOf R sz lo' hi' w' p n cap l :=
  ⟨h.len, h.le, h.max, fun i x hx => by
    obtain ⟨b, off, vs, hp, hb1, hb2, hr, hl, hc⟩ := h.get i x hx
    exact ⟨b, off, vs, hp, by omega, by omega, hR _ _ _ _ _ _ _ _ h1 h2 ha hr, hl, fun j u hu => (World.cell?_of_block (w := w) (w' := w') (a := ⟨b, off + i * sz + j, none⟩) (ha b hb1 hb2)).trans (hc j u hu)⟩⟩

/-- A slice as an element of a slice. -/
def RSlice {α : Type} (R : Rel α) (sz : Nat) : Rel (List α) := fun lo hi w l vs => ∃ p n cap, vs = [.slice p n cap] ∧ SliceOf R sz lo hi w p n cap l
theorem RSlice.keeps {α : Type} {R : Rel α} (hR : Keeps R) (sz : Nat) : Keeps (RSlice R sz) := by
  rintro lo hi lo' hi' w w' x vs h1 h2 ha ⟨p, n, cap, rfl, h⟩
  exact ⟨p, n, cap, rfl, h.keep hR h1 h2 ha⟩

/-- ints -/
def IsI64 (x : Int) : Prop := -9223372036854775808 ≤ x ∧ x ≤ 9223372036854775807
def RInt : Rel Int := fun _ _ _ x vs => vs = [.int .i64 x] ∧ IsI64 x
theorem RInt.keeps : Keeps RInt := fun _ _ _ _ _ _ _ _ _ _ _ h => h

section
variable {α : Type} {R : Rel α} {sz lo hi : Nat} {w : World} {p : Option Addr} {n cap : Nat} {l : List α}
theorem slice_some (h : SliceOf R sz lo hi w p n cap l) {k : Nat} (hk : k < n) : ∃ x, l[k]? = some x := by
  have := h.len
  exact ⟨l[k]'(by omega), List.getElem?_eq_getElem (by omega)⟩
theorem slice_elem (h : SliceOf R sz lo hi w p n cap l) {k : Nat} (hk : k < n) : ∃ x b off vs, l[k]? = some x ∧ p = some ⟨b, off, none⟩ ∧ lo ≤ b ∧ b < hi ∧ R lo hi w x vs ∧ vs.length = sz ∧ ∀ j u, vs[j]? = some u → w.cell? ⟨b, off + k * sz + j, none⟩ = some u := by
  obtain ⟨x, hx⟩ := slice_some h hk
  obtain ⟨b, off, vs, r⟩ := h.get k x hx
  exact ⟨x, b, off, vs, hx, r⟩
theorem SliceOf.nle (h : SliceOf R sz lo hi w p n cap l) : n ≤ 9223372036854775807 := Nat.le_trans h.le h.max
end
/-- An int of a slice: its cell. -/
theorem slice_int {lo hi : Nat} {w : World} {p : Option Addr} {n cap : Nat} {l : List Int} (h : SliceOf RInt 1 lo hi w p n cap l) {k : Nat} (hk : k < n) :
    ∃ x b off, l[k]? = some x ∧ p = some ⟨b, off, none⟩ ∧ lo ≤ b ∧ b < hi ∧ -9223372036854775808 ≤ x ∧ x ≤ 9223372036854775807 ∧ w.cell? ⟨b, off + k, none⟩ = some (.int .i64 x) := by
  obtain ⟨x, b, off, vs, hx, hp, h1, h2, ⟨rfl, hr⟩, _, hc⟩ := slice_elem h hk
  exact ⟨x, b, off, hx, hp, h1, h2, hr.1, hr.2, by simpa using hc 0 _ rfl⟩

theorem take_succ_some {α : Type} {l : List α} {k : Nat} {x : α} (h : l[k]? = some x) : l.take (k + 1) = l.take k ++ [x] := by
  rw [List.take_add_one, h]; rfl
theorem lt_of_some {α : Type} {l : List α} {k : Nat} {x : α} (h : l[k]? = some x) : k < l.length := (List.getElem?_eq_some_iff.1 h).1
theorem ret_bool {a b : Bool} (h : a = b) : Ending.returned (.bool a) = .returned (.bool b) := by rw [h]
theorem ret_tup2 {a b a' b' : Value} (h : a = a') (h' : b = b') : Ending.returned (.tuple #[a, b]) = .returned (.tuple #[a', b']) := by rw [h, h']
theorem ret_tup3 {a b c a' b' c' : Value} (h : a = a') (h' : b = b') (h'' : c = c') : Ending.returned (.tuple #[a, b, c]) = .returned (.tuple #[a', b', c']) := by rw [h, h', h'']
theorem ret_int {k : IntKind} {a b : Int} (h : a = b) : Ending.returned (.int k a) = .returned (.int k b) := by rw [h]
theorem bcell {W w1 : World} (hb : Below W.heap.size W w1) : (∀ b o, b < W.heap.size → w1.cell? ⟨b, o, none⟩ = W.cell? ⟨b, o, none⟩) ∧ (∀ b o, b < W.heap.size → w1.frozen? ⟨b, o, none⟩ = W.frozen? ⟨b, o, none⟩) :=
  ⟨fun b o h => hb.cell (p := ⟨b, o, none⟩) h, fun b o h => hb.frozen (p := ⟨b, o, none⟩) h⟩

/-! ### A block of the call's own, known whole -/
def Own (w : World) (g : Nat) (e : TypeId) (xs : List Value) : Prop := w.heap[g]? = some (.cells xs.toArray e (0, 0))
section
variable {w : World} {g : Nat} {e : TypeId} {xs : List Value}
theorem Own.lt (h : Own w g e xs) : g < w.heap.size := (Array.getElem?_eq_some_iff.1 h).1
theorem Own.cell (h : Own w g e xs) {j : Nat} {u : Value} (hj : xs[j]? = some u) : w.cell? ⟨g, j, none⟩ = some u := by
  unfold Own at h; simp [World.cell?, h, hj]
theorem Own.frozen (h : Own w g e xs) (j : Nat) : w.frozen? ⟨g, j, none⟩ = false := by
  unfold Own at h; simp [World.frozen?, h]
theorem Own.set (h : Own w g e xs) (j : Nat) (v : Value) : Own (w.setCell ⟨g, j, none⟩ v) g e (xs.set j v) := by
  unfold Own at *; simp [World.setCell, Array.getElem?_modify, h]
theorem Own.of_block {w' : World} (h : Own w g e xs) (hb : w'.heap[g]? = w.heap[g]?) : Own w' g e xs := by unfold Own at *; rw [hb, h]
theorem Own.alloc (h : Own w g e xs) (o : Obj) : Own (w.alloc o) g e xs := h.of_block (Below.heap_alloc _ _ _ h.lt)
theorem Own.drewN (h : Own w g e xs) (n : Nat) : Own (w.drewN n) g e xs := by unfold Own at *; simpa using h
theorem Own.setOther (h : Own w g e xs) {p : Addr} (hp : p.block ≠ g) (v : Value) : Own (w.setCell p v) g e xs := h.of_block (Below.heap_setCell _ _ _ _ (Ne.symm hp))
theorem Own.below {w' : World} (h : Own w g e xs) {B : Nat} (hb : Below B w w') (hg : g < B) : Own w' g e xs := h.of_block (hb.block g hg)
theorem Own.made (w : World) (z : Value) (n : Nat) (e : TypeId) : Own (w.alloc (.cells (madeCells #[z] n) e)) w.heap.size e (List.replicate n z) := by
  unfold Own; rw [heap_alloc_new]; rw [← toList_madeCells_one]
theorem Own.new (w : World) (xs : List Value) (e : TypeId) : Own (w.alloc (.cells xs.toArray e)) w.heap.size e xs := by
  unfold Own; rw [heap_alloc_new]
/-- The whole block as a slice of elements of one cell. -/
theorem Own.slice {α : Type} {R : Rel α} {l : List α} {lo hi : Nat} (h : Own w g e xs) (hl : l.length = xs.length) (hm : l.length ≤ 9223372036854775807) (h1 : lo ≤ g) (h2 : g < hi)
    (hR : ∀ (i : Nat) (x : α) (u : Value), l[i]? = some x → xs[i]? = some u → R lo hi w x [u]) : SliceOf R 1 lo hi w (some ⟨g, 0, none⟩) l.length l.length l :=
  ⟨rfl, Nat.le_refl _, hm, fun i x hx => by
    have hi : i < xs.length := by have := lt_of_some hx; omega
    have hu : xs[i]? = some xs[i] := List.getElem?_eq_getElem hi
    refine ⟨g, 0, [xs[i]], rfl, h1, h2, hR i x _ hx hu, rfl, fun j u hj => ?_⟩
    match j with
    | 0 =>
      simp only [List.getElem?_cons_zero, Option.some.injEq] at hj
      subst hj
      simpa using h.cell hu
    | j + 1 => simp at hj⟩
theorem Own.ints {l : List Int} {lo hi : Nat} (h : Own w g e (l.map (Value.int .i64))) (hm : l.length ≤ 9223372036854775807) (h1 : lo ≤ g) (h2 : g < hi) (hw : ∀ x ∈ l, IsI64 x) :
    SliceOf RInt 1 lo hi w (some ⟨g, 0, none⟩) l.length l.length l :=
  Own.slice h (by simp) hm h1 h2 fun i x u hx hu => by
    rw [List.getElem?_map, hx] at hu
    simp only [Option.map_some, Option.some.injEq] at hu
    exact ⟨by rw [← hu], hw x (List.mem_of_getElem? hx)⟩
end
/-- What the call has collected by append, as a slice. -/
theorem slice_of_owns {α : Type} {R : Rel α} {w : World} {base : Nat} {e : TypeId} {size n : Nat} {v : Value} {xs : List Value} {l : List α} {lo hi : Nat} (h : w.ownsRow base e size v n xs) (hl : l.length = n) (hlo : lo ≤ base) (hhi : w.heap.size ≤ hi)
    (hR : ∀ (i : Nat) (x : α), l[i]? = some x → ∃ vs : List Value, R lo hi w x vs ∧ vs.length = size ∧ ∀ (j : Nat) (u : Value), vs[j]? = some u → xs[i * size + j]? = some u) : ∃ p cap, v = .slice p n cap ∧ SliceOf R size lo hi w p n cap l := by
  obtain ⟨h1, h2⟩ := h
  rcases h2 with ⟨rfl, rfl⟩ | ⟨g, cap, cur, rfl, hb, hg, hnc, hcm, hcs, ht⟩
  · refine ⟨none, 0, rfl, hl, Nat.le_refl _, by omega, fun i x hx => ?_⟩
    have := lt_of_some hx
    omega
  · refine ⟨_, cap, rfl, hl, hnc, by unfold maxLen at hcm; omega, fun i x hx => ?_⟩
    obtain ⟨vs, hr, hs, hc⟩ := hR i x hx
    refine ⟨g, 0, vs, rfl, by omega, ?_, hr, hs, fun j u hu => ?_⟩
    · exact Nat.lt_of_lt_of_le (Array.getElem?_eq_some_iff.1 hg).1 hhi
    · have h3 := hc j u hu
      rw [← ht, List.getElem?_take] at h3
      split at h3
      · simpa [World.cell?, hg] using h3
      · cases h3

/-! ### The worlds that a call leaves which only makes new memory: 're w x' -/
structure ReX where
  d : Nat
  os : List Obj
def re (w : World) (x : ReX) : World := { w with heap := w.heap ++ x.os.toArray, drawn := x.d }
@[simp] theorem size_re (w : World) (x : ReX) : (re w x).heap.size = w.heap.size + x.os.length := by simp [re]
theorem heap_re (w : World) (x : ReX) {k : Nat} (h : k < w.heap.size) : (re w x).heap[k]? = w.heap[k]? := by
  simp only [re]; rw [Array.getElem?_append_left h]
theorem below_re {B : Nat} (w : World) (x : ReX) (hB : B ≤ w.heap.size) : Below B w (re w x) := ⟨rfl, rfl, rfl, by simp, fun k hk => heap_re w x (by omega)⟩
theorem re_of_below {w w' : World} (h : Below w.heap.size w w') : ∃ x, w' = re w x := by
  refine ⟨⟨w'.drawn, w'.heap.toList.drop w.heap.size⟩, ?_⟩
  obtain ⟨heap, tape, drawn, os, output⟩ := w'
  have h1 := h.os; have h2 := h.tape; have h3 := h.output; have h4 := h.size; have h5 := h.block
  dsimp only at h1 h2 h3 h4 h5
  subst h1 h2 h3
  unfold re
  congr 1
  apply Array.ext_getElem?
  intro i
  by_cases hi : i < w.heap.size
  · rw [Array.getElem?_append_left hi, h5 i hi]
  · rw [Array.getElem?_append_right (by omega)]
    simp only [List.getElem?_toArray, List.getElem?_drop]
    rw [← Array.getElem?_toList]
    congr 1
    omega
theorem cell_re (w : World) (x : ReX) (n i : Nat) (hn : n < w.heap.size) : (re w x).cell? ⟨n, i, none⟩ = w.cell? ⟨n, i, none⟩ :=
  World.cell?_of_block (w := w) (w' := re w x) (a := ⟨n, i, none⟩) (heap_re w x hn)
theorem frozen_re (w : World) (x : ReX) (n i : Nat) (hn : n < w.heap.size) : (re w x).frozen? ⟨n, i, none⟩ = w.frozen? ⟨n, i, none⟩ :=
  World.frozen?_of_block (w := w) (w' := re w x) (a := ⟨n, i, none⟩) (heap_re w x hn)
/-- A callee that only makes new memory, met in 're w x'. -/
theorem calls_re {P : Program} {f : FuncId} {args : Array Value} {w : World} {x : ReX} {v : Value}
    (h : Calls P f args (re w x) fun e w' => e = .returned v ∧ Below (re w x).heap.size (re w x) w') : Calls P f args (re w x) fun e w'' => e = .returned v ∧ ∃ y, w'' = re w y :=
  h.mono fun _ _ ⟨he, hb⟩ => ⟨he, re_of_below ((below_re w x (Nat.le_refl _)).trans (hb.mono (by simp)))⟩
/-- A region that draws its order, whose operations only read and whose callees only make new memory: one walk, in the order of the text; what stands behind it is asked in every world that lies above. -/
theorem wp_region_below {P : Program} {id : Nat} {Q : Exit → Act → World → Prop} {a : Act} {w : World} {l : List Oper} (hm : P.follows .mixedOrders = true) (hB : Region.lexB .any l.toArray = true)
    (h : wpQuiet P l.toArray (fun w' => ∃ x, w' = re w x) (fun a' => ∀ w', Below w.heap.size w w' → Q .normal a' w') l a) : (Code.region id l.toArray true).wp P Q a w := by
  refine wp_region_quiet (C := fun w' => ∃ x, w' = re w x) hm hB (re_of_below ((Below.refl _ w).drew)) ?_
  have mono : ∀ (l' : List Oper) (a : Act) (Q1 Q2 : Act → Prop), (∀ a, Q1 a → Q2 a) → wpQuiet P l.toArray (fun w' => ∃ x, w' = re w x) Q1 l' a → wpQuiet P l.toArray (fun w' => ∃ x, w' = re w x) Q2 l' a := by
    intro l'
    induction l' with
    | nil => intro a Q1 Q2 hq hh; exact hq _ hh
    | cons o rest ih =>
      intro a Q1 Q2 hq hh
      simp only [wpQuiet] at hh ⊢
      split
      · rename_i hw; simp only [hw, if_true] at hh; exact Oper.quiet_mono (fun a => ih a Q1 Q2 hq) hh
      · rename_i hw; simp only [hw] at hh; exact ih _ Q1 Q2 hq hh
  have := mono l a (fun a' => ∀ w', Below w.heap.size w w' → Q .normal a' w') (fun a' => ∀ w', (∃ x, w' = re w x) → Q .normal a' w') (fun a' (hq : ∀ w', Below w.heap.size w w' → Q .normal a' w') w' (hx : ∃ x, w' = re w x) => by obtain ⟨x, rfl⟩ := hx; exact hq _ (below_re w x (Nat.le_refl _))) h
  simpa using this
end Go.Proofs.Ytpbajggbinljiaa
