/-
  maps.Keys at map[int]bool and map[place]bool: the calls, and the iterators they hand back (the contract 'SeqP').
-/
import Derived.Test.YtpbajggbinljiaaMapSet
import Derived.Test.YtpbajggbinljiaaOptConfigs
namespace Go.Proofs.Ytpbajggbinljiaa
set_option linter.unusedVariables false
set_option linter.unusedSimpArgs false
set_option linter.unnecessarySimpa false
set_option linter.unusedSectionVars false
open Go.RowKit Go.Shelf Go.Maps
attribute [local go_sem] Oper.semAt_some wide_fn wide_depth

theorem wf_i64 {x : Int} : (Lit.int .i64 x).wf = true ↔ IsI64 x := by
  unfold IsI64
  simp only [Lit.wf, Bool.and_eq_true, decide_eq_true_eq]
  exact Iff.rfl
theorem keyOf_int_inv {v : Value} {l : Lit} (h : keyOf Try.prog 3 v = some l) : ∃ x, IsI64 x ∧ v = .int .i64 x := by
  cases v <;> simp [keyOf, Try.underlying3, mapKey] at h
  rename_i q a
  obtain ⟨⟨rfl, hw⟩, rfl⟩ := h
  exact ⟨a, wf_i64.1 hw, rfl⟩
theorem intFit : KeyFit 3 (Value.int .i64) IsI64 :=
  ⟨int_keyed Try.underlying3, fun x hx => ⟨_, keyOf_int_mk Try.underlying3 (wf_i64.2 hx)⟩, fun v l h => keyOf_int_inv h, fun x y h => by simpa using h⟩

theorem size_le_of_owns {H : Type} {P : Program} {k : TypeId} {R : Value → Option (DataW H × List MemPlace)} {w : World} {b n : Nat} {D : DataW H} (h : w.ownsMap P k R b n D) : Maps.size D ≤ n := by
  obtain ⟨es, clock, _, _, hs, rfl⟩ := h
  rw [Maps.size_eq, length_sorted]; simpa using hs

set_option maxRecDepth 100000 in
set_option maxHeartbeats 1000000 in
theorem keysI1_any {n0 C box b n : Nat} {S : Int → Prop} {W : World} (hC : C ≤ W.heap.size) (hbx : W.cell? ⟨box, 0, none⟩ = some (.map (some b))) (hset : KeySet 3 4 (Value.int .i64) W b n S) (hb : b < n0) (hbox : box < n0) (hn0 : n0 ≤ W.heap.size) :
    SeqP Try.prog 58 #[.pointer (some ⟨box, 0, none⟩)] n0 (ElR RInt C) (AllKeys 3 (Value.int .i64) S) (fun _ => True) n W := by
  intro l J Jx hJ hJx hY h0
  obtain ⟨D, hown, hS⟩ := hset
  have hsz := size_le_of_owns hown
  have hpW : From W.heap.size (some W.heap.size) := fun k e => by cases e; exact Nat.le_refl _
  have HHJ := Lib.hid hJ; have HHJx := Lib.hid hJx; have HHY := Lib.hid hY; have H0 := Lib.hid h0; have HS := Lib.hid hS
  clear hJ hJx hY h0 hS
  refine callsIn_of_wp Try.func58 rfl trivial ?_ rfl
  simp only [Try.ntmps58, List.size_toArray, List.length_cons, List.length_nil, Nat.reduceAdd, Nat.reduceSub, Array.replicate_succ, Array.replicate_zero, List.push_toArray, List.append_toArray, List.nil_append, List.cons_append]
  gi_wp2_with (gi_at_range; refine wpListIn_range_own _ rfl _ 94 rfl 3 4 intFit.keyed Try.underlying94 _ b n _ rfl hown ?_; intro w0 hrg0 hg0 hs0)
  try go_frame
  gi_loopw [3] (fun _ wr => ∃ (left : Lit → Bool) (cnt : Nat) (ss : List Int), wr.ranges Try.prog 3 (plainElem Try.prog 4) b W.heap.size n D left cnt ∧ ss.length + cnt ≤ Maps.size D ∧ Hid (Come 3 (Value.int .i64) S left ss) ∧ Hid (J (some W.heap.size) ss wr)) (fun _ wr => wr.rangeLeft b W.heap.size)
  case atStart =>
    exact ⟨_, _, [], hrg0, by simp, Come.start HS.out, HHJ.out _ _ _ _ hpW (H0.out _ hpW) (hg0.but _)⟩
  case round =>
    obtain ⟨left, cnt, ss, hrg, hcs, HC, HJs⟩ := hrel
    gi_wp2_with (gi_at_next; refine wpListIn_next_ranges _ rfl _ rfl 3 intFit.keyed (plainElem Try.prog 4) (Value.int .i64) id (fun key kl hk => by obtain ⟨x, _, hx⟩ := keyOf_int_inv hk; exact ⟨x, hx⟩) (fun v _ _ => ⟨v, rfl⟩) b W.heap.size n _ _ _ rfl hrg ?_ ?_)
    · intro hc0 hl0
      gi_wp2
      go_end0
      exact ⟨⟨_, rfl⟩, .inl ⟨some W.heap.size, ss, hpW, HC.out.done hl0, HJs.out⟩⟩
    · intro x c kl yd yp w2 cnt2 hkey hlk hv hat hrg2 hlt hg2 hs2 hen
      obtain ⟨x', hxi, ex⟩ := keyOf_int_inv hkey
      obtain rfl : x = x' := by simpa using ex
      have hr2 := hrg2.lt
      obtain ⟨fn, tmps, assign, body, hy, hR⟩ := HHY.out (some W.heap.size) ss x wr w2 #[.int .i64 x] hpW (fun k e => by cases e; exact hr2) HJs.out hg2 (by omega) ⟨_, w2.heap.size, w2.heap.size, rfl, ⟨rfl, hxi⟩, by omega, hg2.size, Nat.le_refl _, fun k e => by cases e; exact .inl hr2⟩
      have HC2 := Lib.hid (HC.out.step intFit HS.out hkey hlk hat)
      clear hs2 ex
      gi_wp2
      refine hR.mono ?_
      rintro e W3 (⟨rfl, hJ3, hk3⟩ | ⟨rfl, hJx3⟩)
      · have hrg3 := ranges_block hrg2 (hk3.1.block b hb) (hk3.2 _ rfl hr2)
        gi_wp2
        go_roundw
        case rel => exact ⟨_, cnt2, ss ++ [x], hrg3, by simp; omega, HC2.out, hJ3⟩
        case measure => rw [hrg3.left_eq, hrg.left_eq]; exact hlt
      · gi_wp2
        refine bodyPost_ret (results_none rfl _ _ _) rfl ?_
        exact ⟨⟨_, rfl⟩, .inr ⟨some W.heap.size, ss ++ [x], hpW, trivial, hJx3⟩⟩

theorem keysI_any (mb : Option Nat) (w : World) :
    Calls Try.prog 50 #[.map mb] w fun e w' => e = .returned (.func (.func 58) #[] #[.pointer (some ⟨w.heap.size, 0, none⟩)]) ∧ w' = w.alloc (.cells #[.map mb] 94) := by
  go_enter Try.func50, Try.ntmps50
  go_wp2_with fail
  go_ret
  exact ⟨rfl, rfl⟩

/-! ### keys that are places -/
def placeV (x : Int × Int) : Value := .agg #[.int .i64 x.1, .int .i64 x.2]
def OkP (x : Int × Int) : Prop := IsI64 x.1 ∧ IsI64 x.2
def ElP (p : Option Nat) (W0 W : World) (x : Int × Int) (args : Array Value) : Prop := args = #[placeV x] ∧ OkP x
theorem laidOut : laidOutB Try.prog = true := by kernel_rfl
theorem rowP : (76 : TypeId) < Try.prog.types.size := of_decide_eq_true (by kernel_rfl)
theorem keyP : Try.prog.keyType 76 = true := by kernel_rfl
theorem cellsP : Try.prog.cellsOf 76 = 2 := by kernel_rfl
theorem cellsInt : Try.prog.cellsOf 3 = 1 := by kernel_rfl
theorem rowN : (76 : Nat) < Try.prog.types.size := rowP
theorem sizeT : ∃ m, Try.prog.types.size + 1 = m + 1 + 1 := by
  have := rowN
  generalize Try.prog.types.size = n at this
  exact ⟨n - 1, by omega⟩
theorem lits_int (m : Nat) (v : Value) : Try.prog.keyLits (m + 1) 3 [v] = (match v with | .int q n => if q = .i64 ∧ (Lit.int .i64 n).wf = true then some [.int .i64 n] else none | _ => none) := by
  unfold Program.keyLits
  rw [Try.underlying3]
  cases v <;> rfl
theorem lits_int_inv {m : Nat} {v : Value} {ls : List Lit} (h : Try.prog.keyLits (m + 1) 3 [v] = some ls) : ∃ x, IsI64 x ∧ v = .int .i64 x := by
  rw [lits_int] at h
  cases v <;> (try (cases h; done))
  rename_i q x
  dsimp only at h
  split at h
  · rename_i hq
    exact ⟨x, wf_i64.1 hq.2, by rw [hq.1]⟩
  · cases h
theorem lits_place (m : Nat) (u v : Value) : Try.prog.keyLits (m + 1 + 1) 76 [u, v] = (Try.prog.keyLits (m + 1) 3 [u]).bind fun a => (Try.prog.keyLits (m + 1) 3 [v]).bind fun b => some (a ++ b) := by
  conv => lhs; unfold Program.keyLits
  rw [Try.underlying76]
  generalize he : Try.prog.keyLits (m + 1) = f
  dsimp only
  rw [if_pos ⟨by rw [cellsP]; rfl, by kernel_rfl⟩]
  simp only [List.mapM_cons, List.mapM_nil, cellsInt, List.drop_zero, List.drop_succ_cons, List.take_succ_cons, List.take_zero, Option.pure_def, Option.bind_eq_bind]
  cases f 3 [u] with
  | none => rfl
  | some a =>
    cases f 3 [v] with
    | none => rfl
    | some b => simp
theorem formed_place (v : Value) : v.formed Try.prog 76 = (match v with | .agg cs => cs.size == 2 | _ => false) := by
  cases v <;> unfold Value.formed <;> (try rw [Try.underlying76]) <;> (try rw [cellsP])
theorem keyOf_place_eq (v : Value) : keyOf Try.prog 76 v = if v.formed Try.prog 76 = true then (Try.prog.keyLits (Try.prog.types.size + 1) 76 v.cells.toList).map fun ls => .string (keyBytes ls) else none := by
  unfold keyOf
  rw [Try.underlying76]
  generalize Try.prog.types.size + 1 = n
  simp only [keyP, Bool.true_and]
theorem keyOf_place (a b : Int) (ha : IsI64 a) (hb : IsI64 b) : ∃ l, keyOf Try.prog 76 (placeV (a, b)) = some l := by
  obtain ⟨m, hm⟩ := sizeT
  rw [keyOf_place_eq, hm, formed_place, if_pos (by rfl)]
  show ∃ l, Option.map _ (Try.prog.keyLits (m + 1 + 1) 76 [_, _]) = some l
  rw [lits_place, lits_int, lits_int]
  simp [wf_i64.2 ha, wf_i64.2 hb]
theorem keyOf_place_inv {v : Value} {l : Lit} (h : keyOf Try.prog 76 v = some l) : ∃ x, OkP x ∧ v = placeV x := by
  obtain ⟨m, hm⟩ := sizeT
  rw [keyOf_place_eq, hm] at h
  by_cases hf : v.formed Try.prog 76 = true
  · rw [if_pos hf] at h
    rw [formed_place] at hf
    cases v <;> simp at hf
    rename_i cs
    obtain ⟨l2⟩ := cs
    obtain ⟨u, v, rfl⟩ : ∃ u v, l2 = [u, v] := by
      clear h hm
      match l2, hf with
      | [u, v], _ => exact ⟨u, v, rfl⟩
    · change Option.map _ (Try.prog.keyLits (m + 1 + 1) 76 [u, v]) = some l at h
      rw [lits_place] at h
      cases h1 : Try.prog.keyLits (m + 1) 3 [u] with
      | none => rw [h1] at h; cases h
      | some a =>
        cases h2 : Try.prog.keyLits (m + 1) 3 [v] with
        | none => rw [h1, h2] at h; cases h
        | some b =>
          obtain ⟨x, hx, rfl⟩ := lits_int_inv h1
          obtain ⟨y, hy, rfl⟩ := lits_int_inv h2
          exact ⟨(x, y), ⟨hx, hy⟩, rfl⟩
  · rw [if_neg hf] at h; cases h
theorem placeFit : KeyFit 76 placeV OkP :=
  ⟨Keyed.of_law (deep_law_laid laidOut (m := 2) (by omega) rowP (by kernel_rfl) (by kernel_rfl)), fun x hx => keyOf_place x.1 x.2 hx.1 hx.2, fun v l h => keyOf_place_inv h, fun x y h => by
    simp only [placeV, Value.agg.injEq, Array.mk.injEq, List.cons.injEq, Value.int.injEq, true_and, and_true] at h
    exact Prod.ext h.1 h.2⟩

theorem wpIn_world {F : Fence} {n : Nat} {P : Program} {c : Code} {Q : Exit → Act → World → Prop} {a : Act} {w : World} (h : ∀ w', w = w' → c.wpIn F n P Q a w') : c.wpIn F n P Q a w := h w rfl
set_option maxRecDepth 100000 in
set_option maxHeartbeats 1000000 in
theorem keysP1_any {n0 box b n : Nat} {S : Int × Int → Prop} {W : World} (hbx : W.cell? ⟨box, 0, none⟩ = some (.map (some b))) (hset : KeySet 76 4 (placeV) W b n S) (hb : b < n0) (hbox : box < n0) (hn0 : n0 ≤ W.heap.size) :
    SeqP Try.prog 54 #[.pointer (some ⟨box, 0, none⟩)] n0 ElP (AllKeys 76 (placeV) S) (fun _ => True) n W := by
  intro l J Jx hJ hJx hY h0
  obtain ⟨D, hown, hS⟩ := hset
  have hsz := size_le_of_owns hown
  have hpW : From W.heap.size (some W.heap.size) := fun k e => by cases e; exact Nat.le_refl _
  have HHJ := Lib.hid hJ; have HHJx := Lib.hid hJx; have HHY := Lib.hid hY; have H0 := Lib.hid h0; have HS := Lib.hid hS
  clear hJ hJx hY h0 hS
  refine callsIn_of_wp Try.func54 rfl trivial ?_ rfl
  simp only [Try.ntmps54, List.size_toArray, List.length_cons, List.length_nil, Nat.reduceAdd, Nat.reduceSub, Array.replicate_succ, Array.replicate_zero, List.push_toArray, List.append_toArray, List.nil_append, List.cons_append]
  gi_wp2_with (gi_at_range; refine wpListIn_range_own _ rfl _ 86 rfl 76 4 placeFit.keyed Try.underlying86 _ b n _ rfl hown ?_; intro w0 hrg0 hg0 hs0)
  try go_frame
  gi_loopw [3] (fun _ wr => ∃ (left : Lit → Bool) (cnt : Nat) (ss : List (Int × Int)), wr.ranges Try.prog 76 (plainElem Try.prog 4) b W.heap.size n D left cnt ∧ ss.length + cnt ≤ Maps.size D ∧ Hid (Come 76 (placeV) S left ss) ∧ Hid (J (some W.heap.size) ss wr)) (fun _ wr => wr.rangeLeft b W.heap.size)
  case atStart =>
    exact ⟨_, _, [], hrg0, by simp, Come.start HS.out, HHJ.out _ _ _ _ hpW (H0.out _ hpW) (hg0.but _)⟩
  case round =>
    obtain ⟨left, cnt, ss, hrg, hcs, HC, HJs⟩ := hrel
    gi_wp2_with (gi_at_next; refine wpListIn_next_ranges _ rfl _ rfl 76 placeFit.keyed (plainElem Try.prog 4) (placeV) id (fun key kl hk => by obtain ⟨x, _, hx⟩ := keyOf_place_inv hk; exact ⟨x, hx⟩) (fun v _ _ => ⟨v, rfl⟩) b W.heap.size n _ _ _ rfl hrg ?_ ?_)
    · intro hc0 hl0
      gi_wp2
      go_end0
      exact ⟨⟨_, rfl⟩, .inl ⟨some W.heap.size, ss, hpW, HC.out.done hl0, HJs.out⟩⟩
    · intro x1 x2 c kl yd yp w2 cnt2 hkey hlk hv hat hrg2 hlt hg2 hs2 hen
      obtain ⟨x', hxi, ex⟩ := keyOf_place_inv hkey
      obtain rfl : (x1, x2) = x' := placeFit.inj _ _ ex
      have hr2 := hrg2.lt
      clear hs2 ex
      have HC2 := Lib.hid (HC.out.step placeFit HS.out hkey hlk hat)
      have hen' : (Instr.entry (.pointer (some ⟨W.heap.size, 0, none⟩))).run Try.prog w2 = .ok (.tuple #[.agg #[.int .i64 x1, .int .i64 x2], id c]) w2 := hen
      clear hen
      simp only [placeV]
      gi_upto_region 3 with fail
      refine wpIn_world ?_
      intro w3 hw3
      have hb3 : Below w2.heap.size w2 w3 := by rw [← hw3]; exact (Below.refl _ _).alloc (Nat.le_refl _) _
      have c0 : w3.cell? ⟨w2.heap.size, 0, none⟩ = some (.int .i64 x1) := by rw [← hw3]; simp
      have c1 : w3.cell? ⟨w2.heap.size, 1, none⟩ = some (.int .i64 x2) := by rw [← hw3]; simp
      have hr3 : W.heap.size < w3.heap.size := Nat.lt_of_lt_of_le hr2 hb3.size
      have hg3 : wr.grownBy w3 (some W.heap.size) := hg2.trans (grown_of_below hb3 _)
      have hrg3' := ranges_block hrg2 (hb3.block b hrg2.owns.lt) (hb3.block _ hr2)
      clear hw3
      obtain ⟨fn, tmps, assign, body, hy, hR⟩ := HHY.out (some W.heap.size) ss (x1, x2) wr w3 #[.agg #[.int .i64 x1, .int .i64 x2]] hpW (fun k e => by cases e; exact hr3) HJs.out hg3 (by omega) ⟨rfl, hxi⟩
      gi_wp2
      refine hR.mono ?_
      rintro e W3 (⟨rfl, hJ3, hk3⟩ | ⟨rfl, hJx3⟩)
      · have hrg3 := ranges_block hrg3' (hk3.1.block b hb) (hk3.2 _ rfl hr3)
        gi_wp2
        go_roundw
        case rel => exact ⟨_, cnt2, ss ++ [(x1, x2)], hrg3, by simp; omega, HC2.out, hJ3⟩
        case measure => rw [hrg3.left_eq, hrg.left_eq]; exact hlt
      · gi_wp2
        refine bodyPost_ret (results_none rfl _ _ _) rfl ?_
        exact ⟨⟨_, rfl⟩, .inr ⟨some W.heap.size, ss ++ [(x1, x2)], hpW, trivial, hJx3⟩⟩

theorem keysP_any (mb : Option Nat) (w : World) :
    Calls Try.prog 45 #[.map mb] w fun e w' => e = .returned (.func (.func 54) #[] #[.pointer (some ⟨w.heap.size, 0, none⟩)]) ∧ w' = w.alloc (.cells #[.map mb] 86) := by
  go_enter Try.func45, Try.ntmps45
  go_wp2_with fail
  go_ret
  exact ⟨rfl, rfl⟩
end Go.Proofs.Ytpbajggbinljiaa
