/-
  slices.Collect and slices.Sorted at the keys of a map[int]bool: a new slice of the keys, in order.
-/
import Derived.Test.YtpbajggbinljiaaOptKeys
import Derived.Test.YtpbajggbinljiaaOptLay
import Derived.Sort.OwnSortedInts
namespace Go.Proofs.Ytpbajggbinljiaa
set_option linter.unusedVariables false
set_option linter.unusedSimpArgs false
set_option linter.unnecessarySimpa false
set_option linter.unusedSectionVars false
open Go.RowKit Go.Shelf

theorem coll_ints {e : TypeId} {B : Nat} {X : Nat → Prop} {w : World} {v : Value} {L : List Int} (h : Coll RInt 1 e B X w v L) : w.ownsRow B e 1 v L.length (L.map (Value.int .i64)) ∧ ∀ x ∈ L, IsI64 x := by
  obtain ⟨xs, h1, _, h2⟩ := h
  have hl := h1.1
  have key : ∀ (i : Nat) (x : Int), L[i]? = some x → xs[i]? = some (.int .i64 x) ∧ IsI64 x := fun i x hx => by
    obtain ⟨vs, lo, hi, ⟨rfl, hr⟩, _, _, _, _, hc⟩ := h2 i x hx
    exact ⟨by simpa using hc 0 _ rfl, hr⟩
  have e1 : xs = L.map (Value.int .i64) := by
    apply List.ext_getElem?
    intro i
    by_cases hi : i < L.length
    · rw [(key i _ (List.getElem?_eq_getElem hi)).1, List.getElem?_map, List.getElem?_eq_getElem hi]; rfl
    · rw [List.getElem?_eq_none (by omega), List.getElem?_eq_none (by simp; omega)]
  refine ⟨e1 ▸ h1, fun x hx => ?_⟩
  obtain ⟨i, hi, hx'⟩ := List.getElem_of_mem hx
  exact (key i x (by rw [List.getElem?_eq_getElem hi, hx'])).2
theorem coll_of_ints {e : TypeId} {B : Nat} {w : World} {v : Value} {L : List Int} (h : w.ownsRow B e 1 v L.length (L.map (Value.int .i64))) (hw : ∀ x ∈ L, IsI64 x) (hB : B ≤ w.heap.size) : Coll RInt 1 e B noBlock w v L :=
  ⟨_, h, fun _ _ h => h, fun i x hx => ⟨[.int .i64 x], w.heap.size, w.heap.size, ⟨rfl, hw x (List.mem_of_getElem? hx)⟩, rfl, hB, Nat.le_refl _, fun g _ => Nat.lt_or_ge _ _, fun j u hj => by
    match j with
    | 0 => simp at hj; subst hj; simp [hx]
    | j + 1 => simp at hj⟩⟩

theorem collectI_any {w : World} {box b n : Nat} {S : Int → Prop} (hbx : w.cell? ⟨box, 0, none⟩ = some (.map (some b))) (hset : KeySet 3 4 (Value.int .i64) w b n S) (hb : b < w.heap.size) (hbox : box < w.heap.size) (hn : n ≤ 4096) :
    Calls Try.prog 56 #[.func (.func 58) #[] #[.pointer (some ⟨box, 0, none⟩)]] w (GivesC RInt 1 3 (fun xs => AllKeys 3 (Value.int .i64) S xs ∧ xs.length ≤ n) w) := by
  have call := appendSeq_ints (gf := 58) (lb := #[.pointer (some ⟨box, 0, none⟩)]) (n0 := w.heap.size) (N := n) (S := AllKeys 3 (Value.int .i64) S) (w := w) (enters_of Try.func58 (by kernel_rfl) rfl) (Nat.le_refl _) hn
    (fun W hW hz => keysI1_any hz ((hW.cell (by show box < _; omega)).trans hbx) (hset.block (hW.block b hb)) hb hbox (by omega))
  go_enter Try.func56, Try.ntmps56
  go_wp2_with fail
  refine call.mono ?_
  rintro e w1 ⟨xs, v, hS, rfl, hsl, hb⟩
  go_wp2_with fail
  go_ret
  exact ⟨xs, v, hS, rfl, hsl, hb⟩

theorem sortI_call {w : World} {B : Nat} {v : Value} {L : List Int} (h : Coll RInt 1 3 B noBlock w v L) (hL : L.length ≤ 1000000) (hB : B ≤ w.heap.size) :
    Calls Try.prog 57 #[v] w fun e w' => e = .returned (.tuple #[]) ∧ Coll RInt 1 3 B noBlock w' v (L.mergeSort fun x y => decide (x ≤ y)) ∧ Below B w w' := by
  obtain ⟨h1, hw⟩ := coll_ints h
  have hwm : ∀ x ∈ L.mergeSort (fun x y => decide (x ≤ y)), IsI64 x := fun x hx => hw x ((List.mergeSort_perm L _).mem_iff.1 hx)
  rcases h1.2 with ⟨rfl, hz⟩ | ⟨g, cap, cur, rfl, hbase, hg, r1, r2, r3, r4⟩
  · have hnil : L = [] := List.eq_nil_of_length_eq_zero hz
    subst hnil
    refine (AnyM.slices_Sort_int_none Try.sortI none 0 w).mono ?_
    rintro e w' ⟨rfl, rfl⟩
    exact ⟨rfl, by simpa using h, Below.refl _ _⟩
  · refine (AnyM.slices_Sort_int Try.sortI g 0 cap L w (holds_of_blockI hg (by simpa using r4)) (Array.getElem?_eq_some_iff.1 hg).1 (by omega)).mono ?_
    rintro e w' ⟨rfl, n, os, rfl⟩
    have hg2 := grownBy_sortedI (w := w) (g := g) (n := n) (os := os) (L.mergeSort fun x y => decide (x ≤ y)).toArray
    refine ⟨rfl, coll_of_ints ?_ hwm (Nat.le_trans hB hg2.size), (Below.refl B w).grown hg2 hB (fun k e => by cases e; exact hbase)⟩
    have := ownsRow_sortedI (w := w) (base := B) (n := n) (os := os) (ss := L) (ts := L.mergeSort fun x y => decide (x ≤ y)) (by simp) hbase hg r1 r2 r3
    simpa using this

theorem sortedI_any {w : World} {box b n : Nat} {S : Int → Prop} (hbx : w.cell? ⟨box, 0, none⟩ = some (.map (some b))) (hset : KeySet 3 4 (Value.int .i64) w b n S) (hb : b < w.heap.size) (hbox : box < w.heap.size) (hn : n ≤ 4096) :
    Calls Try.prog 49 #[.func (.func 58) #[] #[.pointer (some ⟨box, 0, none⟩)]] w (fun e w' => ∃ xs v, AllKeys 3 (Value.int .i64) S xs ∧ e = .returned v ∧ Coll RInt 1 3 w.heap.size noBlock w' v (xs.mergeSort fun x y => decide (x ≤ y)) ∧ Below w.heap.size w w') := by
  have call := collectI_any hbx hset hb hbox hn
  go_enter Try.func49, Try.ntmps49
  go_wp2_with fail
  refine call.mono ?_
  rintro e w1 ⟨xs, v, ⟨hS, hlen'⟩, rfl, hsl, hb1⟩
  have hlen : xs.length ≤ 1000000 := by omega
  have call2 := sortI_call hsl hlen hb1.size
  clear call
  go_wp2_with fail
  refine call2.mono ?_
  rintro e w2 ⟨rfl, hsl2, hb2⟩
  go_wp2_with fail
  go_ret
  exact ⟨xs, v, hS, rfl, hsl2, hb1.trans hb2⟩
end Go.Proofs.Ytpbajggbinljiaa
