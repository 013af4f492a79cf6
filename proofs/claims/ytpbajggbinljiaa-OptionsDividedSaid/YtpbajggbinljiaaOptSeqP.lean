/-
  slices.AppendSeq at places.
-/
import Derived.Test.YtpbajggbinljiaaOptKeys
namespace Go.Proofs.Ytpbajggbinljiaa
set_option linter.unusedVariables false
set_option linter.unusedSimpArgs false
set_option linter.unnecessarySimpa false
set_option linter.unusedSectionVars false
open Go.RowKit Go.Shelf
attribute [local go_sem] Oper.semAt_some

def RPlace : Rel (Int × Int) := fun _ _ _ x vs => vs = [.int .i64 x.1, .int .i64 x.2] ∧ OkP x
theorem RPlace.keeps : Keeps RPlace := fun _ _ _ _ _ _ _ _ _ _ _ h => h
theorem cell_add2 {w : World} {x y : Value} {t : TypeId} : ∀ j u, [x, y][j]? = some u → (w.alloc (.cells #[x, y] t)).cell? ((⟨w.heap.size, 0, none⟩ : Addr).add j) = some u := by
  intro j u h
  match j with
  | 0 => simp at h; subst h; simp [Addr.add]
  | 1 => simp at h; subst h; simp [Addr.add]
  | j + 2 => simp at h

set_option maxRecDepth 100000 in
set_option maxHeartbeats 1600000 in
theorem appendSeq_places {gf : Nat} {lb : Array Value} {n0 N : Nat} {S : List (Int × Int) → Prop} {w : World} (eg : ∀ args w, (callFunc gf args).run Try.prog w = .ok (.enter gf args) w) (hn0 : n0 ≤ w.heap.size) (hN : N ≤ 4096)
    (hseq : ∀ W, Below w.heap.size w W → w.heap.size + 3 ≤ W.heap.size → SeqP Try.prog gf lb n0 ElP S (fun _ => True) N W) :
    Calls Try.prog 59 #[.slice none 0 0, .func (.func gf) #[] lb] w (GivesC RPlace 2 76 (fun xs => S xs ∧ xs.length ≤ N) w) := by
  have hinfo : (Try.prog.info? 76).map (fun i => (i.zero, i.size, i.bytes)) = some (some (.agg #[.int .i64 0, .int .i64 0]), 2, 16) := by kernel_rfl
  refine (callsIn_wide (n := 0)).1 ?_
  refine callsIn_of_wp_marks Try.func59 rfl trivial ?_ rfl
  simp only [Try.ntmps59, List.size_toArray, List.length_cons, List.length_nil, Nat.reduceAdd, Nat.reduceSub, Array.replicate_succ, Array.replicate_zero, List.push_toArray, List.append_toArray, List.nil_append, List.cons_append]
  gi_wp2
  generalize hw0 : w.alloc (.cells #[Value.slice none 0 0] 73) = w0
  have hsz : w0.heap.size = w.heap.size + 1 := by rw [← hw0]; simp
  have hbw : Below w.heap.size w w0 := by rw [← hw0]; exact (Below.refl _ w).alloc (Nat.le_refl _) _
  have hc0 : w0.cell? ⟨w.heap.size, 0, none⟩ = some (.slice none 0 0) := by rw [← hw0]; simp
  have hf0 : w0.frozen? ⟨w.heap.size, 0, none⟩ = false := by rw [← hw0]; simp
  clear hw0
  refine wpIn_rangeP (gf := gf) (lb := lb) (n0 := n0) (N := N) (S := S) (Sp := fun _ => True) (El := ElP) rfl eg (by omega) (fun W hW hz => hseq W (hbw.trans (hW.mono (by omega))) (by omega)) ?hps
    (fun p pre W => ∃ v, W.cell? ⟨w.heap.size, 0, none⟩ = some v ∧ W.frozen? ⟨w.heap.size, 0, none⟩ = false ∧ Coll RPlace 2 76 (w.heap.size + 3) (fun k => p = some k) W v pre ∧ Below w.heap.size w W ∧ w.heap.size + 3 ≤ W.heap.size ∧ pre.length ≤ N) (fun _ _ _ _ => False) ⟨?istep, ?ibook⟩ (fun _ => ⟨fun _ _ _ _ _ h _ => h, fun _ _ _ _ _ _ _ _ h _ _ _ _ => h⟩) ?h0
    (fun p x args a₁ W => ∃ bx, args = #[placeV x] ∧ OkP x ∧ w.heap.size + 3 ≤ bx ∧ bx < W.heap.size ∧ W.cell? ⟨bx, 0, none⟩ = some (.int .i64 x.1) ∧ W.cell? ⟨bx, 1, none⟩ = some (.int .i64 x.2) ∧ a₁ = { tmps := #[.slice none 0 0, .func (.func gf) #[] lb, .pointer (some ⟨w.heap.size, 0, none⟩), undef, .slice none 0 0, .pointer (some ⟨bx, 0, none⟩), .func (.func gf) #[] lb, placeV x, undef, undef, undef, undef, undef], defers := [] }) ?hA ?hassign ?hbody ?hdone ?hstop
  case hps => rintro p W0 W x args ⟨rfl, _⟩; rfl
  case istep =>
    rintro p pre A A' hp ⟨v, h1, h2, h3, h4, h5, h6⟩ hg
    have hne : p ≠ some w.heap.size := hp.ne (by omega)
    refine ⟨v, cell_grown h1 hg hne, frozen_grown h1 h2 hg hne, h3.keep (RPlace.keeps) (fun b _ k1 k2 => hg.block b k1 (fun e => k2 e.symm)) hg.size, h4.grown hg h4.size (fun k e => by have := hp k e; omega), Nat.le_trans h5 hg.size, h6⟩
  case ibook =>
    rintro p pre A l o o' hp hpl ⟨v, h1, h2, h3, h4, h5, h6⟩ hl1 hl2 hl ho
    refine ⟨v, cell_putObj h1 (by omega), frozen_putObj h2 (by omega), h3.keep (RPlace.keeps) (fun b k0 _ _ => World.putObj_heap_other (by omega)) (by simp), h4.grown (grownBy_putObj' A l o') h4.size (fun k e => by cases e; omega), by simpa using h5, h6⟩
  case h0 =>
    intro p W hW hz hp
    exact ⟨_, (hW.cell (by show w.heap.size < _; omega)).trans hc0, (hW.frozen (by show w.heap.size < _; omega)).trans hf0, Coll.nil _ _ _ _ _ _, hbw.trans (hW.mono (by omega)), by omega, Nat.zero_le _⟩
  case hA =>
    rintro p x args a₁ W l o o' hp ⟨bx, rfl, h1, h2, h3, h4, h5, rfl⟩ hl1 hl2 hl ho
    exact ⟨bx, rfl, h1, h2, by simpa using h3, cell_putObj h4 (by omega), cell_putObj h5 (by omega), rfl⟩
  case hassign =>
    rintro l p pre ⟨x1, x2⟩ args W0 W K hp hpl hi0 hg ⟨v0, b1, b2, b3, b4, b5, b6⟩ ⟨rfl, hok⟩ hK
    clear hi0 hg
    have hb : Below W.heap.size W (W.alloc (.cells #[.int .i64 x1, .int .i64 x2] 76)) := (Below.refl _ _).alloc (Nat.le_refl _) _
    have hi : ∃ v, (W.alloc (.cells #[.int .i64 x1, .int .i64 x2] 76)).cell? ⟨w.heap.size, 0, none⟩ = some v ∧ (W.alloc (.cells #[.int .i64 x1, .int .i64 x2] 76)).frozen? ⟨w.heap.size, 0, none⟩ = false ∧ Coll RPlace 2 76 (w.heap.size + 3) (fun k => p = some k) (W.alloc (.cells #[.int .i64 x1, .int .i64 x2] 76)) v pre ∧ Below w.heap.size w (W.alloc (.cells #[.int .i64 x1, .int .i64 x2] 76)) ∧ w.heap.size + 3 ≤ (W.alloc (.cells #[.int .i64 x1, .int .i64 x2] 76)).heap.size ∧ pre.length ≤ N :=
      ⟨v0, (hb.cell (by show w.heap.size < _; omega)).trans b1, (hb.frozen (by show w.heap.size < _; omega)).trans b2, b3.below RPlace.keeps hb, b4.trans (hb.mono (by omega)), by simp; omega, b6⟩
    have H := Lib.hid hi; clear hi b1 b2 b3
    have HB := Lib.hid hb; clear hb
    simp only [placeV]
    gi_wp2
    exact hK _ _ ((KeepsOthers.alloc _ _).from _) (KeepP.of_below HB.out (by omega)) H.out ⟨W.heap.size, trivial, hok, by omega, by simp, by simp, by simp, rfl⟩
  case hbody =>
    rintro l p pre ⟨x1, x2⟩ args a₁ W hp hpl ⟨v, h1, h2, h3, h4, h5, h6⟩ ⟨bx, rfl, hok, k1, k2, k3, k4, rfl⟩ hlen
    have hbo : ∀ o, Below W.heap.size W (W.alloc o) := fun o => (Below.refl _ W).alloc (Nat.le_refl _) o
    have hcol := fun o => h3.below RPlace.keeps (hbo o)
    have hel : ∀ o, RPlace W.heap.size W.heap.size (W.alloc o) (x1, x2) [.int .i64 x1, .int .i64 x2] := fun o => ⟨rfl, hok⟩
    have hltv := h3.lt
    have hnX := h3.notX
    have hdis : ∀ g, v.ownBlock = some g ∨ p = some g → g < W.heap.size ∨ W.heap.size ≤ g := fun g hg => Nat.lt_or_ge _ _
    have hX : ∀ o, ¬ p = some (W.alloc o).heap.size := fun o e => by have := hpl _ e; simp at this; omega
    have hx1 : ∀ o : Obj, W.heap.size ≤ (W.alloc o).heap.size := fun o => by simp
    have hx2 : ∀ o : Obj, w.heap.size + 3 ≤ (W.alloc o).heap.size := fun o => by simp; omega
    have hL : (pre ++ [(x1, x2)]).length = pre.length + 1 := by simp
    have hs1 : (pre.length + 1) * 16 ≤ 140737488355328 := by omega
    have hs2 : pre.length + 1 ≤ maxLen := by unfold maxLen; omega
    have hone : ∀ u ∈ [Value.int .i64 x1, Value.int .i64 x2], u.oneCell' = true := fun u hu => by simp at hu; rcases hu with rfl | rfl <;> rfl
    have k1' : w.heap.size + 3 ≤ W.heap.size := by omega
    have hrow : ∀ (o' : Obj) (j : Nat) (o : Obj), v.ownBlock = some j → (W.alloc o').heap[j]? = some o → o.isCells = true := fun o' j o hj ho => by
      obtain ⟨xs, hown, _⟩ := h3
      rcases hown.2 with ⟨rfl, _⟩ | ⟨g, cap, cur, rfl, _, hgg, _⟩
      · cases hj
      · simp only [Value.ownBlock, Option.some.injEq] at hj
        subst hj
        rw [Below.heap_alloc _ _ _ (Array.getElem?_eq_some_iff.1 hgg).1, hgg] at ho
        injection ho with ho
        rw [← ho]; simp [Obj.isCells]
    have HPL := Lib.hid hpl; have H3 := Lib.hid h3; have HP := Lib.hid hp
    clear hpl h3 hp
    dsimp only at k3 k4
    simp only [placeV]
    have HLT := Lib.hid hltv; have HNX := Lib.hid hnX; have HROW := Lib.hid hrow; have HBO := Lib.hid hbo
    clear hltv hnX hrow hbo
    gi_wp2_with (gi_at_builtin; refine wpListIn_append_coll rfl _ _ 73 rfl (RPlace.keeps) (hcol _) (.agg #[.int .i64 0, .int .i64 0]) 16 Try.underlying73 hinfo rfl (by decide) rfl ⟨W.heap.size, 0, none⟩ 1 [.int .i64 x1, .int .i64 x2] (x1, x2) W.heap.size W.heap.size rfl (hel _) rfl cell_add2 hone k1' (hx1 _) hdis (hX _) hs1 hs2 (hx2 _) ?_; rintro v' w4 hc4 hg4; obtain ⟨p', cap', hv', hsl'⟩ := hc4.slice (RPlace.keeps); rw [hL] at hv'; subst hv'; have hbx : v.ownBlock ≠ some w.heap.size := (fun e => by have := (HLT.out _ e).1; omega); have c4 : w4.cell? ⟨w.heap.size, 0, none⟩ = some v := cell_grown (cell_alloc _ h1) hg4 hbx; have f4 : w4.frozen? ⟨w.heap.size, 0, none⟩ = false := frozen_grown (cell_alloc _ h1) ((World.frozen?_alloc_past _ _ _ (World.block_lt_of_cell? W _ h1)).trans h2) hg4 hbx; clear hcol hel hdis hX hx1 hx2 hone hsl' h1 h2)
    refine ⟨(((KeepsOthers.alloc _ _).trans (KeepsOthers.of_grownBy hg4 (fun j o e1 e2 => HROW.out _ j o e1 e2))).trans (KeepsOthers.setCell _ _ _)).from _, ?_, _, World.cell?_setCell_same _ _ _ c4, by rw [World.frozen?_setCell]; exact f4, ?_, ?_, ?_, ?_⟩
    · have q1 : KeepP n0 p W (W.alloc (.cells #[.int .i64 x1, .int .i64 x2] 76)) := KeepP.of_below (HBO.out _) (by omega)
      have q2 : KeepP n0 p (W.alloc (.cells #[.int .i64 x1, .int .i64 x2] 76)) w4 := KeepP.of_grown hg4 (by simp; omega) (fun k e => ⟨by have := (HLT.out k e).1; omega, HNX.out k e⟩)
      refine (q1.trans q2).trans ⟨(Below.refl n0 w4).setCell (p := ⟨w.heap.size, 0, none⟩) hn0 _, fun k e hk => Below.heap_setCell _ _ _ _ (fun e' => by have := HP.out k e; simp at e'; omega)⟩
    · refine hc4.keep (RPlace.keeps) (fun b k0 _ _ => Below.heap_setCell _ _ _ _ (by simp; omega)) (by simp)
    · exact (((h4.alloc (by omega) _).grown hg4 (by simp; omega) (fun k e => by have := (HLT.out k e).1; omega)).setCell (p := ⟨w.heap.size, 0, none⟩) (Nat.le_refl _) _)
    · have := hg4.size; simp at this ⊢; omega
    · simp; omega
  case hdone =>
    rintro D p xs W hD hpD hp hS ⟨v, h1, h2, h3, h4, h5, h6⟩ hdef
    have H3 := Lib.hid h3; clear h3
    gi_wp2
    refine ⟨by simp, .inl ⟨_, _, rfl, run_takeDeferred hdef, ?_⟩⟩
    have h7 := H3.out.keep (w' := W.putObj D (.deferred none)) (RPlace.keeps) (fun b k0 _ _ => World.putObj_heap_other (by omega)) (by simp)
    refine ⟨v, (results_tmp (t := 4) rfl _ _ _).trans rfl, ?_⟩
    exact ⟨xs, v, ⟨hS, h6⟩, rfl, h7.weak (by omega) (fun _ h => h.elim), h4.grown (grownBy_putObj' W D _) h4.size (fun k e => by cases e; omega)⟩
  case hstop =>
    intro D c p pre W hD hpD hp hS hI
    exact hI.elim
end Go.Proofs.Ytpbajggbinljiaa
