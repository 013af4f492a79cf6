/-
  The Go functions options.permitted, options.Valid, backflushref13.Valid compute 'permB', 'inB'; options.Code, backflushref13.Code.
-/
import Derived.Test.YtpbajggbinljiaaOptSmall
import Derived.Test.YtpbajggbinljiaaOptSame
namespace Go.Proofs.Ytpbajggbinljiaa
set_option linter.unusedVariables false
set_option linter.unusedSimpArgs false
set_option linter.unnecessarySimpa false
set_option linter.unusedSectionVars false
open Go.RowKit
attribute [local go_sem] cell_re frozen_re size_re

/-! ### plain -/
def anyB (f : List (List Cnd)) (c : List Int) : Bool := f.any fun l => holdB l c
def digB (o : List Nat) (c : List Int) (i : Nat) : Bool := decide (0 ≤ c[i]?.getD 0) && decide (c[i]?.getD 0 < ((o[i]?.getD 0 : Nat) : Int))
def inB (o : List Nat) (c : List Int) : Bool := (List.range c.length).all (digB o c)
def permB (S : Src) (c : List Int) : Bool := validB S && decide (c.length = S.options.length) && inB S.options c && !anyB S.forbids c
theorem range_step {f : Nat → Bool} {k : Nat} (hk : (List.range k).all f = true) (h : f k = true) : (List.range (k + 1)).all f = true := by
  rw [List.range_succ, List.all_append, hk]; simp [h]
theorem inB_false {o : List Nat} {c : List Int} {k : Nat} (hk : k < c.length) (h : digB o c k = false) : inB o c = false := by
  unfold inB; rw [List.all_eq_false]; exact ⟨k, by simpa using hk, by simp [h]⟩
theorem anyB_true {f : List (List Cnd)} {c : List Int} {k : Nat} {x : List Cnd} (hx : f[k]? = some x) (h : holdB x c = true) : anyB f c = true := by
  unfold anyB; rw [List.any_eq_true]; exact ⟨x, List.mem_of_getElem? hx, h⟩
theorem anyB_step {f : List (List Cnd)} {c : List Int} {k : Nat} {x : List Cnd} (hx : f[k]? = some x) (h : holdB x c = false) (hk : anyB (f.take k) c = false) : anyB (f.take (k + 1)) c = false := by
  unfold anyB at *; rw [take_succ_some hx, List.any_append, hk]; simp [h]
theorem permB_dig {S : Src} {c : List Int} (h : permB S c = true) : Dig c := by
  unfold permB validB inB at h
  simp only [Bool.and_eq_true, decide_eq_true_eq] at h
  obtain ⟨⟨⟨⟨h6, ho⟩, hl⟩, hd⟩, _⟩ := h
  refine ⟨by omega, fun x hx => ?_⟩
  obtain ⟨i, hi, rfl⟩ := List.getElem_of_mem hx
  have h1 := List.all_eq_true.1 hd i (by simpa using hi)
  have h2 := List.all_eq_true.1 ho (S.options[i]'(by omega)) (List.getElem_mem _)
  simp only [digB, optB, Bool.and_eq_true, decide_eq_true_eq] at h1 h2
  rw [List.getElem?_eq_getElem hi, List.getElem?_eq_getElem (by omega)] at h1
  simp only [Option.getD_some] at h1
  omega

/-! ### options.permitted -/
set_option maxHeartbeats 400000 in
theorem permitted1_any {lo hi lo2 hi2 : Nat} {p : Option Addr} {n cap : Nat} {l : List Cnd} {q : Option Addr} {m cap2 : Nat} {c : List Int} {bx : Nat} {w : World}
    (hl : SliceOf RCnd 4 lo hi w p n cap l) (hc : SliceOf RInt 1 lo2 hi2 w q m cap2 c) (hhi : hi ≤ w.heap.size) (hhi2 : hi2 ≤ w.heap.size) (hbx : w.cell? ⟨bx, 0, none⟩ = some (.slice q m cap2)) :
    Calls Try.prog 43 #[.slice p n cap, .pointer (some ⟨bx, 0, none⟩)] w fun e w' => e = .returned (.bool (holdB l c)) ∧ Below w.heap.size w w' := by
  go_enter Try.func43, Try.ntmps43
  go_wp2_with (go_at_call 37; refine (hold_any hl hc hhi hhi2).mono ?_; rintro e w1 ⟨rfl, hb⟩)
  go_ret
  exact ⟨rfl, hb⟩

/-- IndexFunc's answer -/
def GivesIdx (b : Bool) (w : World) (e : Ending) (w' : World) : Prop := ∃ r : Int, e = .returned (.int .i64 r) ∧ decide (0 ≤ r) = b ∧ Below w.heap.size w w'

set_option maxHeartbeats 400000 in
theorem index_any {lo hi lo2 hi2 : Nat} {p : Option Addr} {n cap : Nat} {f : List (List Cnd)} {q : Option Addr} {m cap2 : Nat} {c : List Int} {bx : Nat} {w : World}
    (hf : SliceOf RCnds 1 lo hi w p n cap f) (hc : SliceOf RInt 1 lo2 hi2 w q m cap2 c) (hhi : hi ≤ w.heap.size) (hhi2 : hi2 ≤ w.heap.size) (hbx : w.cell? ⟨bx, 0, none⟩ = some (.slice q m cap2)) :
    Calls Try.prog 51 #[.slice p n cap, .func (.func 43) #[] #[.pointer (some ⟨bx, 0, none⟩)]] w (GivesIdx (anyB f c) w) := by
  have hn := hf.nle
  have Hl := Lib.hid hf.len
  have hbw := World.block_lt_of_cell? w _ hbx
  have Hbx := Lib.hid hbx; clear hbx
  go_enter Try.func51, Try.ntmps51
  go_wp2_with fail
  go_loopw [8] (fun i wr => ∃ k : Nat, k ≤ n ∧ i = .int .i64 k ∧ Hid (anyB (f.take k) c = false) ∧ Below w.heap.size w wr) (fun i _ => n - (intOf i).toNat)
  case atStart => exact ⟨0, Nat.zero_le _, rfl, rfl, Below.refl _ _⟩
  case round =>
    obtain ⟨k, hk, rfl, Hk, hb⟩ := hrel
    have hz := hb.size
    by_cases hlt : k < n
    · obtain ⟨x, b, off, p', n', c', hx, rfl, _, hbh, c0, hxs⟩ := slice_cnds (hf.keep RCnds.keeps (Nat.le_refl _) (Nat.le_refl _) (Agree.of_below hb hhi)) hlt
      have Hx := Lib.hid hx; clear hx
      have call := permitted1_any hxs (hc.keep RInt.keeps (Nat.le_refl _) (Nat.le_refl _) (Agree.of_below hb hhi2)) (by omega) (by omega) ((hb.cell hbw).trans Hbx.out)
      cases hB : holdB x c with
      | true =>
        rw [hB] at call
        have Hf := Lib.hid (anyB_true Hx.out hB)
        clear hB
        go_wp2_with (go_at_call 43; refine call.mono ?_; rintro e w1 ⟨rfl, hb1⟩)
        go_ret
        exact ⟨_, rfl, by rw [Hf.out]; simp, hb.trans (hb1.mono hz)⟩
      | false =>
        rw [hB] at call
        have Hf := Lib.hid (anyB_step Hx.out hB Hk.out)
        clear hB
        go_wp2_with (go_at_call 43; refine call.mono ?_; rintro e w1 ⟨rfl, hb1⟩)
        go_roundw
        case rel => exact ⟨k + 1, by omega, by go_num, Hf.out, hb.trans (hb1.mono hz)⟩
        case measure => simp [intOf]; omega
    · have Hf := Lib.hid (by have := Hk.out; rwa [List.take_of_length_le (by rw [Hl.out]; omega)] at this : anyB f c = false)
      go_wp2_with fail
      go_ret
      exact ⟨_, rfl, by rw [Hf.out]; simp, hb⟩

set_option maxHeartbeats 400000 in
theorem contains_any {lo hi lo2 hi2 : Nat} {p : Option Addr} {n cap : Nat} {f : List (List Cnd)} {q : Option Addr} {m cap2 : Nat} {c : List Int} {bx : Nat} {w : World}
    (hf : SliceOf RCnds 1 lo hi w p n cap f) (hc : SliceOf RInt 1 lo2 hi2 w q m cap2 c) (hhi : hi ≤ w.heap.size) (hhi2 : hi2 ≤ w.heap.size) (hbx : w.cell? ⟨bx, 0, none⟩ = some (.slice q m cap2)) :
    Calls Try.prog 42 #[.slice p n cap, .func (.func 43) #[] #[.pointer (some ⟨bx, 0, none⟩)]] w fun e w' => e = .returned (.bool (anyB f c)) ∧ Below w.heap.size w w' := by
  go_enter Try.func42, Try.ntmps42
  go_wp2_with (go_at_call 51; refine (index_any hf hc hhi hhi2 hbx).mono ?_; rintro e w1 ⟨r, rfl, Hr, hb⟩; have Hr' := Lib.hid Hr; clear Hr)
  go_ret
  exact ⟨ret_bool (by first | exact Hr'.out | (rw [← Hr'.out])), hb⟩

theorem cell_alloc {w : World} {a : Addr} {v : Value} (o : Obj) (h : w.cell? a = some v) : (w.alloc o).cell? a = some v :=
  (World.cell?_alloc_lt w o a (World.block_lt_of_cell? w a h)).trans h

set_option maxHeartbeats 400000 in
theorem permitted_any {lo hi lo2 hi2 : Nat} {s : SrcV} {S : Src} {q : Option Addr} {m cap2 : Nat} {c : List Int} {w : World}
    (hs : RSrc lo hi w s S) (hc : SliceOf RInt 1 lo2 hi2 w q m cap2 c) (hhi : hi ≤ w.heap.size) (hhi2 : hi2 ≤ w.heap.size) :
    Calls Try.prog 33 #[.agg s.cells.toArray, .slice q m cap2] w fun e w' => e = .returned (.bool (!anyB S.forbids c)) ∧ Below w.heap.size w w' := by
  have hfo := hs.fo
  clear hs
  obtain ⟨⟨up, un, uc⟩, ⟨ip, iN, ic⟩, ⟨pp, pn, pc⟩, ⟨mp, mn, mc⟩, ⟨op, on, oc⟩, ⟨fp, fn, fc⟩, ⟨rp, rn, rc⟩, ⟨sp, sn, sc⟩⟩ := s
  dsimp only [SrcV.cells] at *
  go_enter Try.func33, Try.ntmps33
  go_wp2_with fail
  have hb0 : ∀ o1 o2, Below w.heap.size w ((w.alloc o1).alloc o2) := fun o1 o2 => ((Below.refl _ w).alloc (Nat.le_refl _) _).alloc (by simp) _
  refine (contains_any (hfo.keep RCnds.keeps (Nat.le_refl _) (Nat.le_refl _) (Agree.of_below (hb0 _ _) hhi)) (hc.keep RInt.keeps (Nat.le_refl _) (Nat.le_refl _) (Agree.of_below (hb0 _ _) hhi2)) (by simp; omega) (by simp; omega) (by simp)).mono ?_
  rintro e w1 ⟨rfl, hb⟩
  go_wp2_with fail
  go_ret
  exact ⟨rfl, (hb0 _ _).trans (hb.mono (by simp; omega))⟩
end Go.Proofs.Ytpbajggbinljiaa
