/-
  slices.SortedFunc at the keys of a map[place]bool: a new slice of the places, in order.
-/
import Derived.Test.YtpbajggbinljiaaOptCmp
namespace Go.Proofs.Ytpbajggbinljiaa
set_option linter.unusedVariables false
set_option linter.unusedSimpArgs false
set_option linter.unnecessarySimpa false
set_option linter.unusedSectionVars false
open Go.RowKit Go.Shelf Go.Lib Go.Sort

/-- the order of places -/
def ltP (x y : Int × Int) : Prop := x.1 < y.1 ∨ (x.1 = y.1 ∧ x.2 < y.2)
instance (x y : Int × Int) : Decidable (ltP x y) := by unfold ltP; infer_instance
theorem cmpP_lt (x y : Int × Int) : cmpP x y < 0 ↔ ltP x y := by
  unfold cmpP orI Lib.compareInt ltP
  by_cases h1 : x.1 < y.1
  · simp [h1]
  · by_cases h2 : y.1 < x.1
    · simp [h1, h2]; omega
    · have h3 : x.1 = y.1 := by omega
      by_cases h4 : x.2 < y.2
      · simp [h3, h4]
      · by_cases h5 : y.2 < x.2 <;> simp [h3, h4, h5]
theorem ltOf_cmpP (x y : Int × Int) : ltOf cmpP x y = decide (ltP x y) := by
  unfold ltOf
  exact decide_eq_decide.2 (cmpP_lt x y)
theorem swoP : Sort.SWO (ltOf cmpP) where
  irrefl x := by rw [ltOf_cmpP]; simp [ltP]
  trans x y z h1 h2 := by
    rw [ltOf_cmpP, decide_eq_true_eq] at *
    unfold ltP at *; omega
  ntrans x y z h1 h2 := by
    rw [ltOf_cmpP, decide_eq_false_iff_not] at *
    unfold ltP at *; omega
def encP (x : Int × Int) : List Value := [.int .i64 x.1, .int .i64 x.2]

theorem cmpLaysP (blk off size : Nat) (w : World) : CmpLays Try.prog 46 #[] encP 2 cmpP blk off size w :=
  fun _ _ _ _ x y => (places1_any x.1 x.2 y.1 y.2 _).mono fun _ _ ⟨he, h⟩ => ⟨he, h⟩

theorem heap_sortedK {w : World} {g n : Nat} {os : Array Obj} {cur : Array Value} {e : TypeId} {fr : Nat × Nat} (d : Array Value) (hb : w.heap[g]? = some (.cells cur e fr)) :
    (Sort.grow (Sort.putRow id (Sort.ahead w n) g 0 d) os).heap[g]? = some (.cells (Sort.putCells id 0 d cur) e fr) := by
  have hg : g < w.heap.size := (Array.getElem?_eq_some_iff.1 hb).1
  rw [Sort.heap_grow_old _ _ (by simpa using hg)]
  simp [Sort.putRow, Sort.mapBlock, Sort.ahead, Array.getElem?_modify, hb, Sort.onCells]
theorem grownBy_sortedK {w : World} {g n : Nat} {os : Array Obj} (d : Array Value) : w.grownBy (Sort.grow (Sort.putRow id (Sort.ahead w n) g 0 d) os) (some g) := by
  refine ⟨rfl, rfl, rfl, by simp, fun k hk hne => ?_⟩
  rw [Sort.heap_grow_old _ _ (by simpa using hk)]
  have : g ≠ k := fun e => hne (by rw [e])
  simp [Sort.putRow, Sort.mapBlock, Sort.ahead, Array.getElem?_modify, this]
theorem take_putCellsK (cur ts : Array Value) (h : ts.size ≤ cur.size) : (Sort.putCells id 0 ts cur).toList.take ts.size = ts.toList := by
  apply List.ext_getElem?
  intro j
  by_cases hj : j < ts.size
  · rw [List.getElem?_take_of_lt hj, Array.getElem?_toList]
    simp [Sort.putCells, hj, show j < cur.size by omega]
  · rw [List.getElem?_take_eq_none (by omega), List.getElem?_eq_none (by simp; omega)]

theorem coll_places {e : TypeId} {B : Nat} {X : Nat → Prop} {w : World} {v : Value} {L : List (Int × Int)} (h : Coll RPlace 2 e B X w v L) : w.ownsRow B e 2 v L.length (Sort.flatK encP 2 L.toArray).toList ∧ ∀ x ∈ L, OkP x := by
  obtain ⟨xs, h1, _, h2⟩ := h
  have hl := h1.1
  have key : ∀ (i : Nat) (x : Int × Int), L[i]? = some x → (xs[i * 2]? = some (.int .i64 x.1) ∧ xs[i * 2 + 1]? = some (.int .i64 x.2)) ∧ OkP x := fun i x hx => by
    obtain ⟨vs, lo, hi, ⟨rfl, hr⟩, _, _, _, _, hc⟩ := h2 i x hx
    exact ⟨⟨by simpa using hc 0 _ rfl, by simpa using hc 1 _ rfl⟩, hr⟩
  have e1 : xs = (Sort.flatK encP 2 L.toArray).toList := by
    apply List.ext_getElem?
    intro t
    by_cases ht : t < L.length * 2
    · have hi : t / 2 < L.length := by omega
      have hx : L[t / 2]? = some L[t / 2] := List.getElem?_eq_getElem hi
      have hk := key _ _ hx
      have hf : (Sort.flatK encP 2 L.toArray)[t]? = some ((Sort.flatK encP 2 L.toArray)[t]!) := by
        rw [getElem!_pos _ t (by simpa using ht)]
        exact Array.getElem?_eq_getElem _
      have hf' : (Sort.flatK encP 2 L.toArray).toList[t]? = some ((Sort.flatK encP 2 L.toArray)[t]!) := by rw [Array.getElem?_toList]; exact hf
      rw [hf', Sort.get_flatK _ _ _ _ (by simpa using ht)]
      have hd : L.toArray[t / 2]! = L[t / 2] := by simp [hi]
      rw [hd]
      rcases Nat.mod_two_eq_zero_or_one t with h0 | h0
      · have := hk.1.1
        rw [show t / 2 * 2 = t by omega] at this
        rw [this, h0]; rfl
      · have := hk.1.2
        rw [show t / 2 * 2 + 1 = t by omega] at this
        rw [this, h0]; rfl
    · rw [List.getElem?_eq_none (by omega), List.getElem?_eq_none (by simp; omega)]
  refine ⟨e1 ▸ h1, fun x hx => ?_⟩
  obtain ⟨i, hi, hx'⟩ := List.getElem_of_mem hx
  exact (key i x (by rw [List.getElem?_eq_getElem hi, hx'])).2
theorem flat_at {L : List (Int × Int)} {i j : Nat} {x : Int × Int} {u : Value} (hx : L[i]? = some x) (hu : (encP x)[j]? = some u) : (Sort.flatK encP 2 L.toArray).toList[i * 2 + j]? = some u := by
  have hi := lt_of_some hx
  have hj : j < 2 := lt_of_some hu
  have ht : i * 2 + j < (Sort.flatK encP 2 L.toArray).size := by simp; omega
  have hf : (Sort.flatK encP 2 L.toArray)[i * 2 + j]? = some ((Sort.flatK encP 2 L.toArray)[i * 2 + j]!) := by
    rw [getElem!_pos (Sort.flatK encP 2 L.toArray) _ ht]
    exact Array.getElem?_eq_getElem _
  rw [Array.getElem?_toList, hf, Sort.get_flatK _ _ _ _ (by simpa using ht)]
  have e1 : (i * 2 + j) / 2 = i := by omega
  have e2 : (i * 2 + j) % 2 = j := by omega
  have hd : L.toArray[i]! = x := by
    rw [List.getElem?_eq_getElem hi] at hx
    injection hx with hx
    simp [hi, hx]
  rw [e1, e2, hd]
  have : (encP x)[j]! = u := by rw [List.getElem!_eq_getElem?_getD, hu]; rfl
  rw [this]
theorem coll_of_places {e : TypeId} {B : Nat} {w : World} {v : Value} {L : List (Int × Int)} (h : w.ownsRow B e 2 v L.length (Sort.flatK encP 2 L.toArray).toList) (hw : ∀ x ∈ L, OkP x) (hB : B ≤ w.heap.size) : Coll RPlace 2 e B noBlock w v L :=
  ⟨_, h, fun _ _ h => h, fun i x hx => ⟨encP x, w.heap.size, w.heap.size, ⟨rfl, hw x (List.mem_of_getElem? hx)⟩, rfl, hB, Nat.le_refl _, fun g _ => Nat.lt_or_ge _ _, fun j u hj => flat_at hx hj⟩⟩

theorem sortP_call {w : World} {B : Nat} {v : Value} {L : List (Int × Int)} (h : Coll RPlace 2 76 B noBlock w v L) (hL : L.length ≤ 1000000) (hB : B ≤ w.heap.size) :
    Calls Try.prog 53 #[v, .func (.func 46) #[] #[]] w fun e w' => e = .returned (.tuple #[]) ∧ Coll RPlace 2 76 B noBlock w' v (L.mergeSort fun x y => !decide (ltP y x)) ∧ Below B w w' := by
  obtain ⟨h1, hw⟩ := coll_places h
  have e0 : (fun x y => !decide (ltP y x)) = fun x y => !(ltOf cmpP) y x := by funext x y; rw [ltOf_cmpP]
  rw [e0]
  have hwm : ∀ x ∈ L.mergeSort (fun x y => !(ltOf cmpP) y x), OkP x := fun x hx => hw x ((List.mergeSort_perm L _).mem_iff.1 hx)
  rcases h1.2 with ⟨rfl, hz⟩ | ⟨g, cap, cur, rfl, hbase, hg, r1, r2, r3, r4⟩
  · have hnil : L = [] := List.eq_nil_of_length_eq_zero hz
    subst hnil
    refine (AnyF.slices_SortFunc_none { Try.sortP with } none 0 _ w).mono ?_
    rintro e w' ⟨rfl, rfl⟩
    exact ⟨rfl, by simpa using h, Below.refl _ _⟩
  · have hH : Sort.HoldsK encP 2 w g 0 L.toArray := by
      intro t ht
      refine ⟨?_, by simp [World.frozen?, hg]⟩
      have ht' : t < L.length * 2 := by simpa using ht
      have h3 : (cur.toList.take (L.length * 2))[t]? = (Sort.flatK encP 2 L.toArray).toList[t]? := by rw [r4]
      rw [List.getElem?_take_of_lt ht'] at h3
      simp only [World.cell?, hg, Nat.zero_add]
      simp only [Option.isSome_none, Bool.false_eq_true, if_false]
      rw [← Array.getElem?_toList, h3, Array.getElem?_toList, getElem!_pos _ t ht]
      exact Array.getElem?_eq_getElem _
    refine (AnyQ.slices_SortFunc_total Try.sortP 2 Try.isAgg76 Try.sizeOf76 encP (fun _ => rfl) (fun x v hv => by simp [encP] at hv; rcases hv with rfl | rfl <;> rfl) cmpP swoP 46 #[] g 0 cap L.toArray w
      (enters_of Try.func46 (by kernel_rfl) rfl) (cmpLaysP _ _ _ _) hH (Array.getElem?_eq_some_iff.1 hg).1 (by simp; omega) (fun x y h1 h2 => by
        rw [ltOf_cmpP, decide_eq_false_iff_not] at h1 h2
        unfold ltP at h1 h2
        exact Prod.ext (by omega) (by omega))).mono ?_
    rintro e w' ⟨rfl, n, os, rfl⟩
    have hlen : (L.mergeSort fun x y => !(ltOf cmpP) y x).length = L.length := by simp
    have hg2 := grownBy_sortedK (w := w) (g := g) (n := n) (os := os) (Sort.flatK encP 2 (L.mergeSort fun x y => !(ltOf cmpP) y x).toArray)
    refine ⟨rfl, coll_of_places ?_ hwm (Nat.le_trans hB hg2.size), (Below.refl B w).grown hg2 hB (fun k e => by cases e; exact hbase)⟩
    refine ⟨by simp, .inr ⟨g, cap, _, by rw [hlen], hbase, heap_sortedK _ hg, by rw [hlen]; exact r1, r2, by simp [Sort.putCells, r3], ?_⟩⟩
    have := take_putCellsK cur (Sort.flatK encP 2 (L.mergeSort fun x y => !(ltOf cmpP) y x).toArray) (by simp [r3]; omega)
    simpa using this

theorem collectP_any {w : World} {box b n : Nat} {S : Int × Int → Prop} (hbx : w.cell? ⟨box, 0, none⟩ = some (.map (some b))) (hset : KeySet 76 4 placeV w b n S) (hb : b < w.heap.size) (hbox : box < w.heap.size) (hn : n ≤ 4096) :
    Calls Try.prog 52 #[.func (.func 54) #[] #[.pointer (some ⟨box, 0, none⟩)]] w (GivesC RPlace 2 76 (fun xs => AllKeys 76 placeV S xs ∧ xs.length ≤ n) w) := by
  have call := appendSeq_places (gf := 54) (lb := #[.pointer (some ⟨box, 0, none⟩)]) (n0 := w.heap.size) (N := n) (S := AllKeys 76 placeV S) (w := w) (enters_of Try.func54 (by kernel_rfl) rfl) (Nat.le_refl _) hn
    (fun W hW hz => keysP1_any ((hW.cell (by show box < _; omega)).trans hbx) (hset.block (hW.block b hb)) hb hbox (by omega))
  go_enter Try.func52, Try.ntmps52
  go_wp2_with fail
  refine call.mono ?_
  rintro e w1 ⟨xs, v, hS, rfl, hsl, hb⟩
  go_wp2_with fail
  go_ret
  exact ⟨xs, v, hS, rfl, hsl, hb⟩

theorem sortedP_any {w : World} {box b n : Nat} {S : Int × Int → Prop} (hbx : w.cell? ⟨box, 0, none⟩ = some (.map (some b))) (hset : KeySet 76 4 placeV w b n S) (hb : b < w.heap.size) (hbox : box < w.heap.size) (hn : n ≤ 4096) :
    Calls Try.prog 44 #[.func (.func 54) #[] #[.pointer (some ⟨box, 0, none⟩)], .func (.func 46) #[] #[]] w (fun e w' => ∃ xs v, AllKeys 76 placeV S xs ∧ e = .returned v ∧ Coll RPlace 2 76 w.heap.size noBlock w' v (xs.mergeSort fun x y => !decide (ltP y x)) ∧ Below w.heap.size w w') := by
  have call := collectP_any hbx hset hb hbox hn
  go_enter Try.func44, Try.ntmps44
  go_wp2_with fail
  refine call.mono ?_
  rintro e w1 ⟨xs, v, ⟨hS, hlen'⟩, rfl, hsl, hb1⟩
  have call2 := sortP_call hsl (by omega) hb1.size
  clear call
  go_wp2_with fail
  refine call2.mono ?_
  rintro e w2 ⟨rfl, hsl2, hb2⟩
  go_wp2_with fail
  go_ret
  exact ⟨xs, v, hS, rfl, hsl2, hb1.trans hb2⟩
end Go.Proofs.Ytpbajggbinljiaa
