/-
  slices.AppendSeq and slices.Collect at lists of ints, over whatever iterator that has the contract 'SeqP'.
-/
import Derived.Test.YtpbajggbinljiaaRangeP
import Derived.Test.YtpbajggbinljiaaOptRefAll
namespace Go.Proofs.Ytpbajggbinljiaa
set_option linter.unusedVariables false
set_option linter.unusedSimpArgs false
set_option linter.unnecessarySimpa false
set_option linter.unusedSectionVars false
open Go.RowKit Go.Shelf
attribute [local go_sem] Oper.semAt_some

/-- An element that comes: one value, whose memory was laid, from C on, since the last round, apart from the iterator's own block. -/
def ElR {α : Type} (R : Rel α) (C : Nat) (p : Option Nat) (W0 W : World) (x : α) (args : Array Value) : Prop :=
  ∃ v lo hi, args = #[v] ∧ R lo hi W x [v] ∧ C ≤ lo ∧ W0.heap.size ≤ lo ∧ hi ≤ W.heap.size ∧ ∀ k, p = some k → k < lo ∨ hi ≤ k
abbrev ElL (C : Nat) := ElR (RSlice RInt 1) C
/-- a new slice of the call's own, of which S is known -/
def GivesC {α : Type} (R : Rel α) (size : Nat) (et : TypeId) (S : List α → Prop) (w : World) (e : Ending) (w' : World) : Prop :=
  ∃ xs v, S xs ∧ e = .returned v ∧ Coll R size et w.heap.size noBlock w' v xs ∧ Below w.heap.size w w'
theorem Coll.weak {α : Type} {R : Rel α} {size : Nat} {e : TypeId} {B B' : Nat} {X X' : Nat → Prop} {w : World} {v : Value} {L : List α} (h : Coll R size e B X w v L) (hB : B' ≤ B) (hX : ∀ g, X' g → X g) : Coll R size e B' X' w v L := by
  obtain ⟨xs, ⟨h1, h2⟩, h3, h4⟩ := h
  refine ⟨xs, ⟨h1, ?_⟩, fun g hg hx => h3 g hg (hX g hx), fun i x hx => ?_⟩
  · rcases h2 with h2 | ⟨g, cap, cur, e1, hb, rest⟩
    · exact .inl h2
    · exact .inr ⟨g, cap, cur, e1, Nat.le_trans hB hb, rest⟩
  · obtain ⟨vs, lo, hi, k1, k2, k3, k4, k5, k6⟩ := h4 i x hx
    exact ⟨vs, lo, hi, k1, k2, Nat.le_trans hB k3, k4, fun g hg => k5 g (hg.imp id (hX g)), k6⟩
theorem agree_putObj {lo hi l : Nat} {W : World} (o : Obj) (h : l < lo ∨ hi ≤ l) : Agree lo hi W (W.putObj l o) := fun b h1 h2 => World.putObj_heap_other (by omega)
theorem cell_putObj {W : World} {b j l : Nat} {o : Obj} {v : Value} (h : W.cell? ⟨b, j, none⟩ = some v) (hl : b ≠ l) : (W.putObj l o).cell? ⟨b, j, none⟩ = some v :=
  (World.cell?_of_block (w := W) (w' := W.putObj l o) (a := ⟨b, j, none⟩) (World.putObj_heap_other hl)).trans h
theorem frozen_putObj {W : World} {b j l : Nat} {o : Obj} (h : W.frozen? ⟨b, j, none⟩ = false) (hl : b ≠ l) : (W.putObj l o).frozen? ⟨b, j, none⟩ = false :=
  (World.frozen?_of_block (w := W) (w' := W.putObj l o) (a := ⟨b, j, none⟩) (World.putObj_heap_other hl)).trans h
theorem cell_grown {W W' : World} {b j : Nat} {p : Option Nat} {v : Value} (h : W.cell? ⟨b, j, none⟩ = some v) (hg : W.grownBy W' p) (hp : p ≠ some b) : W'.cell? ⟨b, j, none⟩ = some v :=
  hg.cell h (fun e => hp e.symm)
theorem frozen_grown {W W' : World} {b j : Nat} {p : Option Nat} {v : Value} (hc : W.cell? ⟨b, j, none⟩ = some v) (h : W.frozen? ⟨b, j, none⟩ = false) (hg : W.grownBy W' p) (hp : p ≠ some b) : W'.frozen? ⟨b, j, none⟩ = false :=
  (World.frozen?_of_block (w := W) (w' := W') (a := ⟨b, j, none⟩) (hg.block b (World.block_lt_of_cell? W _ hc) (fun e => hp e.symm))).trans h

/-- append of one element inside a range over a function -/
theorem wpListIn_append_coll {F : Fence} {n : Nat} {P : Program} {w : World} {ops : Array Oper} {rest : List Oper} {o : Oper} {a : Act} {Q : Exit → Act → World → Prop} (hgd : o.guard = none) (s x : Operand) (t : TypeId)
    (ho : o.op = .call { callee := .builtin .append, args := #[s, x], argTypes := #[t, t] })
    {α : Type} {R : Rel α} {B size : Nat} {e : TypeId} {X : Nat → Prop} {v : Value} {L : List α} (hR : Keeps R) (hc : Coll R size e B X w v L) (z : Value) (bytes : Nat) (ht : P.underlying t = some (.slice e))
    (hinfo : (P.info? e).map (fun i => (i.zero, i.size, i.bytes)) = some (some z, size, bytes)) (hzs : z.cells.size = size) (hsz : 0 < size) (hs : a.eval s = v)
    (ad : Addr) (c : Nat) (vs : List Value) (el : α) (lo hi : Nat) (hx : a.eval x = .slice (some ad) 1 c) (hel : R lo hi w el vs) (hl : vs.length = size)
    (hnews : ∀ j u, vs[j]? = some u → w.cell? (ad.add j) = some u) (h1 : ∀ u ∈ vs, u.oneCell' = true) (hlo : B ≤ lo) (hhi : hi ≤ w.heap.size) (hdis : ∀ g, v.ownBlock = some g ∨ X g → g < lo ∨ hi ≤ g) (hX : ¬ X w.heap.size)
    (hsmall : (L.length + 1) * bytes ≤ 140737488355328) (hlen : L.length + 1 ≤ maxLen) (hbase : B ≤ w.heap.size)
    (h : ∀ v' w', Coll R size e B X w' v' (L ++ [el]) → w.grownBy w' v.ownBlock → wpListIn F n P ops Q rest (a.put o.dst v') w') : wpListIn F n P ops Q (o :: rest) a w := by
  obtain ⟨v', w', hr, h2, h3⟩ := run_append_coll (P := P) hR hc t o.type z bytes ht hinfo hzs hsz ad c vs el lo hi hel hl hnews h1 hlo hhi hdis hX hsmall hlen hbase
  refine wpListIn_plain hgd fun K hK => ⟨by simp [Oper.about, ho, resolve, Target.leads, Sem.run_pure], ?_⟩
  rw [Oper.semAt_plain F _ _ (by rw [ho]; intro c hc'; cases hc')]
  simp only [execOp, ho, resolve, invoke, builtin, Sem.run_bind, Sem.run_pure, Result.andThen_ok, List.map_toArray, List.map_cons, List.map_nil, hs, hx, hr]
  exact hK _ _ (h v' w' h2 h3)

set_option maxRecDepth 100000 in
set_option maxHeartbeats 1600000 in
theorem appendSeq_lists {gf : Nat} {lb : Array Value} {n0 N : Nat} {S : List (List Int) → Prop} {w : World} (eg : ∀ args w, (callFunc gf args).run Try.prog w = .ok (.enter gf args) w) (hn0 : n0 ≤ w.heap.size) (hN : N ≤ 4096)
    (hseq : ∀ W, Below w.heap.size w W → w.heap.size + 3 ≤ W.heap.size → SeqP Try.prog gf lb n0 (ElR (RSlice RInt 1) (w.heap.size + 3)) S (fun _ => True) N W) :
    Calls Try.prog 39 #[.slice none 0 0, .func (.func gf) #[] lb] w (GivesC (RSlice RInt 1) 1 32 (fun xs => S xs ∧ xs.length ≤ N) w) := by
  have hinfo : (Try.prog.info? 32).map (fun i => (i.zero, i.size, i.bytes)) = some (some (.slice none 0 0), 1, 24) := by kernel_rfl
  refine (callsIn_wide (n := 0)).1 ?_
  refine callsIn_of_wp_marks Try.func39 rfl trivial ?_ rfl
  simp only [Try.ntmps39, List.size_toArray, List.length_cons, List.length_nil, Nat.reduceAdd, Nat.reduceSub, Array.replicate_succ, Array.replicate_zero, List.push_toArray, List.append_toArray, List.nil_append, List.cons_append]
  gi_wp2
  generalize hw0 : w.alloc (.cells #[Value.slice none 0 0] 35) = w0
  have hsz : w0.heap.size = w.heap.size + 1 := by rw [← hw0]; simp
  have hbw : Below w.heap.size w w0 := by rw [← hw0]; exact (Below.refl _ w).alloc (Nat.le_refl _) _
  have hc0 : w0.cell? ⟨w.heap.size, 0, none⟩ = some (.slice none 0 0) := by rw [← hw0]; simp
  have hf0 : w0.frozen? ⟨w.heap.size, 0, none⟩ = false := by rw [← hw0]; simp
  clear hw0
  refine wpIn_rangeP (gf := gf) (lb := lb) (n0 := n0) (N := N) (S := S) (Sp := fun _ => True) (El := ElR (RSlice RInt 1) (w.heap.size + 3)) rfl eg (by omega) (fun W hW hz => hseq W (hbw.trans (hW.mono (by omega))) (by omega)) ?hps
    (fun p pre W => ∃ v, W.cell? ⟨w.heap.size, 0, none⟩ = some v ∧ W.frozen? ⟨w.heap.size, 0, none⟩ = false ∧ Coll (RSlice RInt 1) 1 32 (w.heap.size + 3) (fun k => p = some k) W v pre ∧ Below w.heap.size w W ∧ w.heap.size + 3 ≤ W.heap.size ∧ pre.length ≤ N) (fun _ _ _ _ => False) ⟨?istep, ?ibook⟩ (fun _ => ⟨fun _ _ _ _ _ h _ => h, fun _ _ _ _ _ _ _ _ h _ _ _ _ => h⟩) ?h0
    (fun p x args a₁ W => ∃ v lo hi, args = #[v] ∧ RSlice RInt 1 lo hi W x [v] ∧ w.heap.size + 3 ≤ lo ∧ hi ≤ W.heap.size ∧ (∀ k, p = some k → k < lo ∨ hi ≤ k) ∧ (∀ u, W.cell? ⟨w.heap.size, 0, none⟩ = some u → ∀ g, u.ownBlock = some g → g < lo ∨ hi ≤ g) ∧ a₁ = { tmps := #[.slice none 0 0, .func (.func gf) #[] lb, .pointer (some ⟨w.heap.size, 0, none⟩), undef, .slice none 0 0, v, .func (.func gf) #[] lb, v, undef, undef, undef, undef, undef], defers := [] }) ?hA ?hassign ?hbody ?hdone ?hstop
  case hps => rintro p W0 W x args ⟨v, lo, hi, rfl, _⟩; rfl
  case istep =>
    rintro p pre A A' hp ⟨v, h1, h2, h3, h4, h5, h6⟩ hg
    have hne : p ≠ some w.heap.size := hp.ne (by omega)
    refine ⟨v, cell_grown h1 hg hne, frozen_grown h1 h2 hg hne, h3.keep (RSlice.keeps RInt.keeps 1) (fun b _ k1 k2 => hg.block b k1 (fun e => k2 e.symm)) hg.size, h4.grown hg h4.size (fun k e => by have := hp k e; omega), Nat.le_trans h5 hg.size, h6⟩
  case ibook =>
    rintro p pre A l o o' hp hpl ⟨v, h1, h2, h3, h4, h5, h6⟩ hl1 hl2 hl ho
    refine ⟨v, cell_putObj h1 (by omega), frozen_putObj h2 (by omega), h3.keep (RSlice.keeps RInt.keeps 1) (fun b k0 _ _ => World.putObj_heap_other (by omega)) (by simp), h4.grown (grownBy_putObj' A l o') h4.size (fun k e => by cases e; omega), by simpa using h5, h6⟩
  case h0 =>
    intro p W hW hz hp
    exact ⟨_, (hW.cell (by show w.heap.size < _; omega)).trans hc0, (hW.frozen (by show w.heap.size < _; omega)).trans hf0, Coll.nil _ _ _ _ _ _, hbw.trans (hW.mono (by omega)), by omega, Nat.zero_le _⟩
  case hA =>
    rintro p x args a₁ W l o o' hp ⟨v, lo, hi, rfl, hr, h1, h2, h3, h4, rfl⟩ hl1 hl2 hl ho
    exact ⟨v, lo, hi, rfl, RSlice.keeps RInt.keeps 1 _ _ _ _ _ _ _ _ (Nat.le_refl _) (Nat.le_refl _) (agree_putObj _ (by omega)) hr, h1, by simpa using h2, h3, fun u hu => h4 u (((World.cell?_of_block (w := W) (w' := W.putObj l o') (a := ⟨w.heap.size, 0, none⟩) (World.putObj_heap_other (by show w.heap.size ≠ l; omega))).symm).trans hu), rfl⟩
  case hassign =>
    rintro l p pre x args W0 W K hp hpl ⟨v0, b1, b2, b3, b4, b5, b6⟩ hg hi ⟨v, lo, hi', rfl, hr, h1, h1', h2, h3⟩ hK
    have hd : ∀ u, W.cell? ⟨w.heap.size, 0, none⟩ = some u → ∀ g, u.ownBlock = some g → g < lo ∨ hi' ≤ g := fun u hu g hgu => by
      rw [cell_grown b1 hg (hp.ne (by omega))] at hu
      injection hu with hu
      subst hu
      exact .inl (Nat.lt_of_lt_of_le (b3.lt g hgu).2 h1')
    have H := Lib.hid hi; clear hi
    have Hd := Lib.hid hd; clear hd
    clear b1 b2 b3 b4 b5 b6 hg
    gi_wp2
    exact hK _ _ (KeepsFrom.refl _ _) (KeepP.refl _ _ _) H.out ⟨v, lo, hi', rfl, hr, h1, h2, h3, Hd.out, rfl⟩
  case hbody =>
    rintro l p pre x args a₁ W hp hpl ⟨v, h1, h2, h3, h4, h5, h6⟩ ⟨u, lo, hi', rfl, hr, k1, k2, k3, k4, rfl⟩ hlen
    have hr0 := hr
    obtain ⟨q, m, c, hv, hsl⟩ := hr
    simp only [List.cons.injEq, and_true] at hv
    subst hv
    have hbo : ∀ o, Below W.heap.size W (W.alloc o) := fun o => (Below.refl _ W).alloc (Nat.le_refl _) o
    have hcol := fun o => h3.below (RSlice.keeps RInt.keeps 1) (hbo o)
    have hel : ∀ o, RSlice RInt 1 lo hi' (W.alloc o) x [Value.slice q m c] := fun o => RSlice.keeps RInt.keeps 1 _ _ _ _ _ _ _ _ (Nat.le_refl _) (Nat.le_refl _) (Agree.of_below (hbo o) k2) hr0
    have hltv := h3.lt
    have hnX := h3.notX
    have hdis : ∀ g, v.ownBlock = some g ∨ p = some g → g < lo ∨ hi' ≤ g := fun g hg => hg.elim (k4 v h1 g) (k3 g)
    have hX : ∀ o, ¬ p = some (W.alloc o).heap.size := fun o e => by have := hpl _ e; simp at this; omega
    have hx1 : ∀ o : Obj, hi' ≤ (W.alloc o).heap.size := fun o => by simp; omega
    have hx2 : ∀ o : Obj, w.heap.size + 3 ≤ (W.alloc o).heap.size := fun o => by simp; omega
    have hL : (pre ++ [x]).length = pre.length + 1 := by simp
    have hs1 : (pre.length + 1) * 24 ≤ 140737488355328 := by omega
    have hs2 : pre.length + 1 ≤ maxLen := by unfold maxLen; omega
    have hone : ∀ u ∈ [Value.slice q m c], u.oneCell' = true := fun u hu => by simp at hu; subst hu; rfl
    have hrow : ∀ (o' : Obj) (j : Nat) (o : Obj), v.ownBlock = some j → (W.alloc o').heap[j]? = some o → o.isCells = true := fun o' j o hj ho => by
      obtain ⟨xs, hown, _⟩ := h3
      rcases hown.2 with ⟨rfl, _⟩ | ⟨g, cap, cur, rfl, _, hgg, _⟩
      · cases hj
      · simp only [Value.ownBlock, Option.some.injEq] at hj
        subst hj
        rw [Below.heap_alloc _ _ _ (Array.getElem?_eq_some_iff.1 hgg).1, hgg] at ho
        injection ho with ho
        rw [← ho]; simp [Obj.isCells]
    have K3 := Lib.hid k3; have K4 := Lib.hid k4; have HPL := Lib.hid hpl; have H3 := Lib.hid h3; have HSL := Lib.hid hr0; have HP := Lib.hid hp
    clear k3 k4 hpl h3 hr0 hp
    have HLT := Lib.hid hltv; have HNX := Lib.hid hnX; have HROW := Lib.hid hrow; have HBO := Lib.hid hbo
    clear hltv hnX hrow hbo
    gi_wp2_with (gi_at_builtin; refine wpListIn_append_coll rfl _ _ 35 rfl (RSlice.keeps RInt.keeps 1) (hcol _) (.slice none 0 0) 24 Try.underlying35 hinfo rfl (by decide) rfl ⟨W.heap.size, 0, none⟩ 1 [Value.slice q m c] x lo hi' rfl (hel _) rfl cell_add hone k1 (hx1 _) hdis (hX _) hs1 hs2 (hx2 _) ?_; rintro v' w4 hc4 hg4; obtain ⟨p', cap', hv', hsl'⟩ := hc4.slice (RSlice.keeps RInt.keeps 1); rw [hL] at hv'; subst hv'; have hbx : v.ownBlock ≠ some w.heap.size := (fun e => by have := (HLT.out _ e).1; omega); have c4 : w4.cell? ⟨w.heap.size, 0, none⟩ = some v := cell_grown (cell_alloc _ h1) hg4 hbx; have f4 : w4.frozen? ⟨w.heap.size, 0, none⟩ = false := frozen_grown (cell_alloc _ h1) ((World.frozen?_alloc_past _ _ _ (World.block_lt_of_cell? W _ h1)).trans h2) hg4 hbx; clear hcol hel hdis hX hx1 hx2 hone hsl' h1 h2)
    refine ⟨(((KeepsOthers.alloc _ _).trans (KeepsOthers.of_grownBy hg4 (fun j o e1 e2 => HROW.out _ j o e1 e2))).trans (KeepsOthers.setCell _ _ _)).from _, ?_, _, World.cell?_setCell_same _ _ _ c4, by rw [World.frozen?_setCell]; exact f4, ?_, ?_, ?_, ?_⟩
    · have q1 : KeepP n0 p W (W.alloc (.cells #[Value.slice q m c] 32)) := KeepP.of_below (HBO.out _) (by omega)
      have q2 : KeepP n0 p (W.alloc (.cells #[Value.slice q m c] 32)) w4 := KeepP.of_grown hg4 (by simp; omega) (fun k e => ⟨by have := (HLT.out k e).1; omega, HNX.out k e⟩)
      refine (q1.trans q2).trans ⟨(Below.refl n0 w4).setCell (p := ⟨w.heap.size, 0, none⟩) hn0 _, fun k e hk => Below.heap_setCell _ _ _ _ (fun e' => by have := HP.out k e; simp at e'; omega)⟩
    · refine hc4.keep (RSlice.keeps RInt.keeps 1) (fun b k0 _ _ => Below.heap_setCell _ _ _ _ (by simp; omega)) (by simp)
    · exact (((h4.alloc (by omega) _).grown hg4 (by simp; omega) (fun k e => by have := (HLT.out k e).1; omega)).setCell (p := ⟨w.heap.size, 0, none⟩) (Nat.le_refl _) _)
    · have := hg4.size; simp at this ⊢; omega
    · simp; omega
  case hdone =>
    rintro D p xs W hD hpD hp hS ⟨v, h1, h2, h3, h4, h5, h6⟩ hdef
    have H3 := Lib.hid h3; clear h3
    gi_wp2
    refine ⟨by simp, .inl ⟨_, _, rfl, run_takeDeferred hdef, ?_⟩⟩
    have h7 := H3.out.keep (w' := W.putObj D (.deferred none)) (RSlice.keeps RInt.keeps 1) (fun b k0 _ _ => World.putObj_heap_other (by omega)) (by simp)
    refine ⟨v, (results_tmp (t := 4) rfl _ _ _).trans rfl, ?_⟩
    exact ⟨xs, v, ⟨hS, h6⟩, rfl, h7.weak (by omega) (fun _ h => h.elim), h4.grown (grownBy_putObj' W D _) h4.size (fun k e => by cases e; omega)⟩
  case hstop =>
    intro D c p pre W hD hpD hp hS hI
    exact hI.elim

set_option maxRecDepth 100000 in
set_option maxHeartbeats 1600000 in
theorem appendSeq_ints {gf : Nat} {lb : Array Value} {n0 N : Nat} {S : List (Int) → Prop} {w : World} (eg : ∀ args w, (callFunc gf args).run Try.prog w = .ok (.enter gf args) w) (hn0 : n0 ≤ w.heap.size) (hN : N ≤ 4096)
    (hseq : ∀ W, Below w.heap.size w W → w.heap.size + 3 ≤ W.heap.size → SeqP Try.prog gf lb n0 (ElR (RInt) (w.heap.size + 3)) S (fun _ => True) N W) :
    Calls Try.prog 62 #[.slice none 0 0, .func (.func gf) #[] lb] w (GivesC (RInt) 1 3 (fun xs => S xs ∧ xs.length ≤ N) w) := by
  have hinfo : (Try.prog.info? 3).map (fun i => (i.zero, i.size, i.bytes)) = some (some (.int .i64 0), 1, 8) := by kernel_rfl
  refine (callsIn_wide (n := 0)).1 ?_
  refine callsIn_of_wp_marks Try.func62 rfl trivial ?_ rfl
  simp only [Try.ntmps62, List.size_toArray, List.length_cons, List.length_nil, Nat.reduceAdd, Nat.reduceSub, Array.replicate_succ, Array.replicate_zero, List.push_toArray, List.append_toArray, List.nil_append, List.cons_append]
  gi_wp2
  generalize hw0 : w.alloc (.cells #[Value.slice none 0 0] 32) = w0
  have hsz : w0.heap.size = w.heap.size + 1 := by rw [← hw0]; simp
  have hbw : Below w.heap.size w w0 := by rw [← hw0]; exact (Below.refl _ w).alloc (Nat.le_refl _) _
  have hc0 : w0.cell? ⟨w.heap.size, 0, none⟩ = some (.slice none 0 0) := by rw [← hw0]; simp
  have hf0 : w0.frozen? ⟨w.heap.size, 0, none⟩ = false := by rw [← hw0]; simp
  clear hw0
  refine wpIn_rangeP (gf := gf) (lb := lb) (n0 := n0) (N := N) (S := S) (Sp := fun _ => True) (El := ElR (RInt) (w.heap.size + 3)) rfl eg (by omega) (fun W hW hz => hseq W (hbw.trans (hW.mono (by omega))) (by omega)) ?hps
    (fun p pre W => ∃ v, W.cell? ⟨w.heap.size, 0, none⟩ = some v ∧ W.frozen? ⟨w.heap.size, 0, none⟩ = false ∧ Coll (RInt) 1 3 (w.heap.size + 3) (fun k => p = some k) W v pre ∧ Below w.heap.size w W ∧ w.heap.size + 3 ≤ W.heap.size ∧ pre.length ≤ N) (fun _ _ _ _ => False) ⟨?istep, ?ibook⟩ (fun _ => ⟨fun _ _ _ _ _ h _ => h, fun _ _ _ _ _ _ _ _ h _ _ _ _ => h⟩) ?h0
    (fun p x args a₁ W => ∃ v lo hi, args = #[v] ∧ RInt lo hi W x [v] ∧ w.heap.size + 3 ≤ lo ∧ hi ≤ W.heap.size ∧ (∀ k, p = some k → k < lo ∨ hi ≤ k) ∧ (∀ u, W.cell? ⟨w.heap.size, 0, none⟩ = some u → ∀ g, u.ownBlock = some g → g < lo ∨ hi ≤ g) ∧ a₁ = { tmps := #[.slice none 0 0, .func (.func gf) #[] lb, .pointer (some ⟨w.heap.size, 0, none⟩), undef, .slice none 0 0, v, .func (.func gf) #[] lb, v, undef, undef, undef, undef, undef], defers := [] }) ?hA ?hassign ?hbody ?hdone ?hstop
  case hps => rintro p W0 W x args ⟨v, lo, hi, rfl, _⟩; rfl
  case istep =>
    rintro p pre A A' hp ⟨v, h1, h2, h3, h4, h5, h6⟩ hg
    have hne : p ≠ some w.heap.size := hp.ne (by omega)
    refine ⟨v, cell_grown h1 hg hne, frozen_grown h1 h2 hg hne, h3.keep (RInt.keeps) (fun b _ k1 k2 => hg.block b k1 (fun e => k2 e.symm)) hg.size, h4.grown hg h4.size (fun k e => by have := hp k e; omega), Nat.le_trans h5 hg.size, h6⟩
  case ibook =>
    rintro p pre A l o o' hp hpl ⟨v, h1, h2, h3, h4, h5, h6⟩ hl1 hl2 hl ho
    refine ⟨v, cell_putObj h1 (by omega), frozen_putObj h2 (by omega), h3.keep (RInt.keeps) (fun b k0 _ _ => World.putObj_heap_other (by omega)) (by simp), h4.grown (grownBy_putObj' A l o') h4.size (fun k e => by cases e; omega), by simpa using h5, h6⟩
  case h0 =>
    intro p W hW hz hp
    exact ⟨_, (hW.cell (by show w.heap.size < _; omega)).trans hc0, (hW.frozen (by show w.heap.size < _; omega)).trans hf0, Coll.nil _ _ _ _ _ _, hbw.trans (hW.mono (by omega)), by omega, Nat.zero_le _⟩
  case hA =>
    rintro p x args a₁ W l o o' hp ⟨v, lo, hi, rfl, hr, h1, h2, h3, h4, rfl⟩ hl1 hl2 hl ho
    exact ⟨v, lo, hi, rfl, RInt.keeps _ _ _ _ _ _ _ _ (Nat.le_refl _) (Nat.le_refl _) (agree_putObj _ (by omega)) hr, h1, by simpa using h2, h3, fun u hu => h4 u (((World.cell?_of_block (w := W) (w' := W.putObj l o') (a := ⟨w.heap.size, 0, none⟩) (World.putObj_heap_other (by show w.heap.size ≠ l; omega))).symm).trans hu), rfl⟩
  case hassign =>
    rintro l p pre x args W0 W K hp hpl ⟨v0, b1, b2, b3, b4, b5, b6⟩ hg hi ⟨v, lo, hi', rfl, hr, h1, h1', h2, h3⟩ hK
    have hd : ∀ u, W.cell? ⟨w.heap.size, 0, none⟩ = some u → ∀ g, u.ownBlock = some g → g < lo ∨ hi' ≤ g := fun u hu g hgu => by
      rw [cell_grown b1 hg (hp.ne (by omega))] at hu
      injection hu with hu
      subst hu
      exact .inl (Nat.lt_of_lt_of_le (b3.lt g hgu).2 h1')
    have H := Lib.hid hi; clear hi
    have Hd := Lib.hid hd; clear hd
    clear b1 b2 b3 b4 b5 b6 hg
    gi_wp2
    exact hK _ _ (KeepsFrom.refl _ _) (KeepP.refl _ _ _) H.out ⟨v, lo, hi', rfl, hr, h1, h2, h3, Hd.out, rfl⟩
  case hbody =>
    rintro l p pre x args a₁ W hp hpl ⟨v, h1, h2, h3, h4, h5, h6⟩ ⟨u, lo, hi', rfl, hr, k1, k2, k3, k4, rfl⟩ hlen
    have hr0 := hr
    obtain ⟨hv, hsl⟩ := hr
    simp only [List.cons.injEq, and_true] at hv
    subst hv
    have hbo : ∀ o, Below W.heap.size W (W.alloc o) := fun o => (Below.refl _ W).alloc (Nat.le_refl _) o
    have hcol := fun o => h3.below (RInt.keeps) (hbo o)
    have hel : ∀ o, RInt lo hi' (W.alloc o) x [Value.int .i64 x] := fun o => RInt.keeps _ _ _ _ _ _ _ _ (Nat.le_refl _) (Nat.le_refl _) (Agree.of_below (hbo o) k2) hr0
    have hltv := h3.lt
    have hnX := h3.notX
    have hdis : ∀ g, v.ownBlock = some g ∨ p = some g → g < lo ∨ hi' ≤ g := fun g hg => hg.elim (k4 v h1 g) (k3 g)
    have hX : ∀ o, ¬ p = some (W.alloc o).heap.size := fun o e => by have := hpl _ e; simp at this; omega
    have hx1 : ∀ o : Obj, hi' ≤ (W.alloc o).heap.size := fun o => by simp; omega
    have hx2 : ∀ o : Obj, w.heap.size + 3 ≤ (W.alloc o).heap.size := fun o => by simp; omega
    have hL : (pre ++ [x]).length = pre.length + 1 := by simp
    have hs1 : (pre.length + 1) * 8 ≤ 140737488355328 := by omega
    have hs2 : pre.length + 1 ≤ maxLen := by unfold maxLen; omega
    have hone : ∀ u ∈ [Value.int .i64 x], u.oneCell' = true := fun u hu => by simp at hu; subst hu; rfl
    have hrow : ∀ (o' : Obj) (j : Nat) (o : Obj), v.ownBlock = some j → (W.alloc o').heap[j]? = some o → o.isCells = true := fun o' j o hj ho => by
      obtain ⟨xs, hown, _⟩ := h3
      rcases hown.2 with ⟨rfl, _⟩ | ⟨g, cap, cur, rfl, _, hgg, _⟩
      · cases hj
      · simp only [Value.ownBlock, Option.some.injEq] at hj
        subst hj
        rw [Below.heap_alloc _ _ _ (Array.getElem?_eq_some_iff.1 hgg).1, hgg] at ho
        injection ho with ho
        rw [← ho]; simp [Obj.isCells]
    have K3 := Lib.hid k3; have K4 := Lib.hid k4; have HPL := Lib.hid hpl; have H3 := Lib.hid h3; have HSL := Lib.hid hr0; have HP := Lib.hid hp
    clear k3 k4 hpl h3 hr0 hp
    have HLT := Lib.hid hltv; have HNX := Lib.hid hnX; have HROW := Lib.hid hrow; have HBO := Lib.hid hbo
    clear hltv hnX hrow hbo
    gi_wp2_with (gi_at_builtin; refine wpListIn_append_coll rfl _ _ 32 rfl (RInt.keeps) (hcol _) (.int .i64 0) 8 Try.underlying32 hinfo rfl (by decide) rfl ⟨W.heap.size, 0, none⟩ 1 [Value.int .i64 x] x lo hi' rfl (hel _) rfl cell_add hone k1 (hx1 _) hdis (hX _) hs1 hs2 (hx2 _) ?_; rintro v' w4 hc4 hg4; obtain ⟨p', cap', hv', hsl'⟩ := hc4.slice (RInt.keeps); rw [hL] at hv'; subst hv'; have hbx : v.ownBlock ≠ some w.heap.size := (fun e => by have := (HLT.out _ e).1; omega); have c4 : w4.cell? ⟨w.heap.size, 0, none⟩ = some v := cell_grown (cell_alloc _ h1) hg4 hbx; have f4 : w4.frozen? ⟨w.heap.size, 0, none⟩ = false := frozen_grown (cell_alloc _ h1) ((World.frozen?_alloc_past _ _ _ (World.block_lt_of_cell? W _ h1)).trans h2) hg4 hbx; clear hcol hel hdis hX hx1 hx2 hone hsl' h1 h2)
    refine ⟨(((KeepsOthers.alloc _ _).trans (KeepsOthers.of_grownBy hg4 (fun j o e1 e2 => HROW.out _ j o e1 e2))).trans (KeepsOthers.setCell _ _ _)).from _, ?_, _, World.cell?_setCell_same _ _ _ c4, by rw [World.frozen?_setCell]; exact f4, ?_, ?_, ?_, ?_⟩
    · have q1 : KeepP n0 p W (W.alloc (.cells #[Value.int .i64 x] 3)) := KeepP.of_below (HBO.out _) (by omega)
      have q2 : KeepP n0 p (W.alloc (.cells #[Value.int .i64 x] 3)) w4 := KeepP.of_grown hg4 (by simp; omega) (fun k e => ⟨by have := (HLT.out k e).1; omega, HNX.out k e⟩)
      refine (q1.trans q2).trans ⟨(Below.refl n0 w4).setCell (p := ⟨w.heap.size, 0, none⟩) hn0 _, fun k e hk => Below.heap_setCell _ _ _ _ (fun e' => by have := HP.out k e; simp at e'; omega)⟩
    · refine hc4.keep (RInt.keeps) (fun b k0 _ _ => Below.heap_setCell _ _ _ _ (by simp; omega)) (by simp)
    · exact (((h4.alloc (by omega) _).grown hg4 (by simp; omega) (fun k e => by have := (HLT.out k e).1; omega)).setCell (p := ⟨w.heap.size, 0, none⟩) (Nat.le_refl _) _)
    · have := hg4.size; simp at this ⊢; omega
    · simp; omega
  case hdone =>
    rintro D p xs W hD hpD hp hS ⟨v, h1, h2, h3, h4, h5, h6⟩ hdef
    have H3 := Lib.hid h3; clear h3
    gi_wp2
    refine ⟨by simp, .inl ⟨_, _, rfl, run_takeDeferred hdef, ?_⟩⟩
    have h7 := H3.out.keep (w' := W.putObj D (.deferred none)) (RInt.keeps) (fun b k0 _ _ => World.putObj_heap_other (by omega)) (by simp)
    refine ⟨v, (results_tmp (t := 4) rfl _ _ _).trans rfl, ?_⟩
    exact ⟨xs, v, ⟨hS, h6⟩, rfl, h7.weak (by omega) (fun _ h => h.elim), h4.grown (grownBy_putObj' W D _) h4.size (fun k e => by cases e; omega)⟩
  case hstop =>
    intro D c p pre W hD hpD hp hS hI
    exact hI.elim

end Go.Proofs.Ytpbajggbinljiaa
