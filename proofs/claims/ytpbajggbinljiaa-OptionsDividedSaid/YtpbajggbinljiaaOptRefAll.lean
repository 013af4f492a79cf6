/-
  backflushref13.All gives 'allL' (all permitted configurations, by their codes), or the error 130.
-/
import Derived.Test.YtpbajggbinljiaaOptRefValid
import Derived.Test.YtpbajggbinljiaaColl
namespace Go.Proofs.Ytpbajggbinljiaa
set_option linter.unusedVariables false
set_option linter.unusedSimpArgs false
set_option linter.unnecessarySimpa false
set_option linter.unusedSectionVars false
open Go.RowKit
attribute [local go_sem] cell_re frozen_re size_re

def allUpto (S : Src) (k : Nat) : List (List Int) := ((List.range k).map fun n => digs n S.options.length).filter (permB S)
def allL (S : Src) : List (List Int) := if validB S then allUpto S (4 ^ S.options.length) else []
def allE (S : Src) : Int := if validB S then 0 else 130
theorem allUpto_zero (S : Src) : allUpto S 0 = [] := by simp [allUpto]
theorem allUpto_yes {S : Src} {k : Nat} (h : permB S (digs k S.options.length) = true) : allUpto S (k + 1) = allUpto S k ++ [digs k S.options.length] := by
  simp [allUpto, List.range_succ, h]
theorem allUpto_no {S : Src} {k : Nat} (h : permB S (digs k S.options.length) = false) : allUpto S (k + 1) = allUpto S k := by
  simp [allUpto, List.range_succ, h]
theorem allUpto_len (S : Src) (k : Nat) : (allUpto S k).length ≤ k := by
  unfold allUpto; exact Nat.le_trans (List.length_filter_le _ _) (by simp)
theorem pow4_le {k n : Nat} (h : k ≤ n) (hn : n ≤ 6) : 4 ^ k ≤ 4096 := by
  have : 4 ^ k ≤ 4 ^ 6 := Nat.pow_le_pow_right (by omega) (by omega)
  omega
theorem pow4_lt {k n : Nat} (h : k < n) (hn : n ≤ 6) : 4 ^ k ≤ 1024 := by
  have : 4 ^ k ≤ 4 ^ 5 := Nat.pow_le_pow_right (by omega) (by omega)
  omega
theorem validB_le {S : Src} (h : validB S = true) : S.options.length ≤ 6 := by
  unfold validB at h; simp only [Bool.and_eq_true, decide_eq_true_eq] at h; exact h.1

/-- a list of lists of ints in new memory, and an error -/
def GivesLists (w : World) (L : List (List Int)) (ec : Int) (e : Ending) (w' : World) : Prop :=
  ∃ p n cap, e = .returned (.tuple #[.slice p n cap, .int .i64 ec]) ∧ SliceOf (RSlice RInt 1) 1 w.heap.size w'.heap.size w' p n cap L ∧ Below w.heap.size w w'
/-- a list of ints in new memory, and an error -/
def GivesInts2 (w : World) (l : List Int) (ec : Int) (e : Ending) (w' : World) : Prop :=
  ∃ p n cap, e = .returned (.tuple #[.slice p n cap, .int .i64 ec]) ∧ SliceOf RInt 1 w.heap.size w'.heap.size w' p n cap l ∧ Below w.heap.size w w'
theorem slice_nil {α : Type} (R : Rel α) (sz lo hi : Nat) (w : World) : SliceOf R sz lo hi w none 0 0 [] := ⟨rfl, Nat.le_refl _, by omega, fun i x h => by simp at h⟩
theorem cell_add {w : World} {x : Value} {t : TypeId} : ∀ j u, [x][j]? = some u → (w.alloc (.cells #[x] t)).cell? ((⟨w.heap.size, 0, none⟩ : Addr).add j) = some u := by
  intro j u h
  match j with
  | 0 => simp at h; subst h; simp [Addr.add]
  | j + 1 => simp at h

set_option maxHeartbeats 1600000 in
theorem refAll_any {lo hi : Nat} {s : SrcV} {S : Src} {w : World} (hs : RSrc lo hi w s S) (hhi : hi ≤ w.heap.size) :
    Calls Try.prog 11 #[.agg s.cells.toArray] w (GivesLists w (allL S) (allE S)) := by
  have hon := hs.op.nle
  have Ho := Lib.hid hs.op.len
  have hinfo : (Try.prog.info? 32).map (fun i => (i.zero, i.size, i.bytes)) = some (some (.slice none 0 0), 1, 24) := by kernel_rfl
  have hone : ∀ {p : Option Addr} {n c : Nat}, ∀ u ∈ [Value.slice p n c], u.oneCell' = true := fun u hu => by simp at hu; subst hu; rfl
  obtain ⟨⟨up, un, uc⟩, ⟨ip, iN, ic⟩, ⟨pp, pn, pc⟩, ⟨mp, mn, mc⟩, ⟨op, on, oc⟩, ⟨fp, fn, fc⟩, ⟨rp, rn, rc⟩, ⟨sp, sn, sc⟩⟩ := s
  dsimp only at hon Ho
  have hb0 : ∀ o1, Below w.heap.size w (w.alloc o1) := fun o1 => (Below.refl _ w).alloc (Nat.le_refl _) _
  have call := fun o1 => refOptions_any (hs.keep (Nat.le_refl _) (Nat.le_refl _) (Agree.of_below (hb0 o1) hhi)) (by simp; omega)
  cases hv : validB S with
  | false =>
    rw [hv] at call
    have Hf := Lib.hid hv
    clear hv
    go_enter Try.func11, Try.ntmps11
    go_wp2_with fail
    refine (call _).mono ?_
    rintro e w1 ⟨rfl, hb⟩
    go_wp2_with fail
    go_ret2
    refine ⟨none, 0, 0, ?_, ?_, (hb0 _).trans (hb.mono (by simp))⟩
    · rw [allE, Hf.out]; rfl
    · rw [allL, Hf.out]; exact slice_nil _ _ _ _ _
  | true =>
    rw [hv] at call
    have Hv := Lib.hid hv
    have hon6 : on ≤ 6 := by rw [← Ho.out]; exact validB_le hv
    clear hv
    go_enter Try.func11, Try.ntmps11
    go_wp2_with fail
    refine (call _).mono ?_
    clear call
    rintro e w1 ⟨rfl, hb⟩
    have hbw : Below w.heap.size w w1 := (hb0 _).trans (hb.mono (by simp))
    have bx0 : w1.cell? ⟨w.heap.size, 0, none⟩ = some (.slice up un uc) := (hb.cell (by simp)).trans (by simp)
    have bx1 : w1.cell? ⟨w.heap.size, 1, none⟩ = some (.slice ip iN ic) := (hb.cell (by simp)).trans (by simp)
    have bx2 : w1.cell? ⟨w.heap.size, 2, none⟩ = some (.slice pp pn pc) := (hb.cell (by simp)).trans (by simp)
    have bx3 : w1.cell? ⟨w.heap.size, 3, none⟩ = some (.slice mp mn mc) := (hb.cell (by simp)).trans (by simp)
    have bx4 : w1.cell? ⟨w.heap.size, 4, none⟩ = some (.slice op on oc) := (hb.cell (by simp)).trans (by simp)
    have bx5 : w1.cell? ⟨w.heap.size, 5, none⟩ = some (.slice fp fn fc) := (hb.cell (by simp)).trans (by simp)
    have bx6 : w1.cell? ⟨w.heap.size, 6, none⟩ = some (.slice rp rn rc) := (hb.cell (by simp)).trans (by simp)
    have bx7 : w1.cell? ⟨w.heap.size, 7, none⟩ = some (.slice sp sn sc) := (hb.cell (by simp)).trans (by simp)
    have hz := hb.size
    simp only [World.size_alloc] at hz
    clear hb hb0
    go_wp2_with fail
    go_loop [4, 5] (fun t i => ∃ k M : Nat, k ≤ on ∧ i = .int .i64 k ∧ t = .int .i64 M ∧ M ≤ 4096 ∧ Hid (M = 4 ^ k)) (fun _ i => on - (intOf i).toNat)
    case atStart => exact ⟨0, 1, Nat.zero_le _, rfl, rfl, by omega, rfl⟩
    case round =>
      obtain ⟨k, M, hk, rfl, rfl, hM, HM⟩ := hrel
      by_cases hlt : k < on
      · have hM2 : M ≤ 1024 := by rw [HM.out]; exact pow4_lt hlt hon6
        have HM2 : Hid (M * 4 = 4 ^ (k + 1)) := by show _ = _; rw [HM.out, Nat.pow_succ]
        go_wp2_with fail
        go_round
        case rel => exact ⟨k + 1, M * 4, by omega, by go_num, by go_num, by omega, HM2.out⟩
        case measure => simp [intOf]; omega
      · have HM2 : Hid (M = 4 ^ S.options.length) := by show _ = _; rw [HM.out, Ho.out, show k = on from by omega]
        go_wp2_with fail
        go_loopw [6, 7] (fun t i wr => ∃ k : Nat, k ≤ M ∧ i = .int .i64 k ∧ Coll (RSlice RInt 1) 1 32 w1.heap.size noBlock wr t (allUpto S k) ∧ Below w1.heap.size w1 wr) (fun _ i _ => M - (intOf i).toNat)
        case atStart => exact ⟨0, Nat.zero_le _, rfl, allUpto_zero S ▸ Coll.empty _ (heap_alloc_new _ _) (Nat.le_refl _) id (Nat.zero_le _) (by simp), (Below.refl _ _).alloc (Nat.le_refl _) _⟩
        case round =>
          obtain ⟨k, hk, rfl, hcol, hb⟩ := hrel
          have hz2 := hb.size
          by_cases hlt2 : k < M
          · have hsw := hs.keep (Nat.le_refl _) (Nat.le_refl _) (Agree.of_below (hbw.trans (hb.mono hbw.size)) hhi)
            have bc : ∀ j, wr.cell? ⟨w.heap.size, j, none⟩ = w1.cell? ⟨w.heap.size, j, none⟩ := fun j => hb.cell (by show w.heap.size < _; omega)
            have hcl := allUpto_len S k
            go_wp2_with fail
            refine (digits_any k on wr (by omega) hon6).mono ?_
            rintro e w2 ⟨p2, n2, c2, rfl, hsl, hb2⟩
            have hz3 := hb2.size
            have hb2' : Below w.heap.size w w2 := (hbw.trans (hb.mono hbw.size)).trans (hb2.mono (by omega))
            have bc2 : ∀ j, w2.cell? ⟨w.heap.size, j, none⟩ = wr.cell? ⟨w.heap.size, j, none⟩ := fun j => hb2.cell (by show w.heap.size < _; omega)
            have hcol2 := hcol.below (RSlice.keeps RInt.keeps 1) hb2
            have call := refValid_any (hs.keep (Nat.le_refl _) (Nat.le_refl _) (Agree.of_below hb2' hhi)) hsl (by omega) (Nat.le_refl _)
            have hltw := hcol.lt
            clear hcol
            cases hp : permB S (digs k on) with
            | false =>
              rw [hp] at call
              have Hf := Lib.hid (allUpto_no (S := S) (k := k) (by rw [Ho.out]; exact hp))
              clear hp
              go_wp2_with fail
              refine call.mono ?_
              rintro e w3 ⟨rfl, hb3⟩
              have hz4 := hb3.size
              have hcol3 := Lib.hid (hcol2.below (RSlice.keeps RInt.keeps 1) hb3)
              go_wp2_with fail
              go_roundw
              case rel => exact ⟨k + 1, by omega, by go_num, by rw [Hf.out]; exact hcol3.out, hb.trans ((hb2.trans (hb3.mono hz3)).mono hz2)⟩
              case measure => simp [intOf]; omega
            | true =>
              rw [hp] at call
              have Hf := Lib.hid (allUpto_yes (S := S) (k := k) (by rw [Ho.out]; exact hp))
              clear hp
              go_wp2_with fail
              refine call.mono ?_
              rintro e w3 ⟨rfl, hb3⟩
              have hz4 := hb3.size
              have hcol3 := hcol2.below (RSlice.keeps RInt.keeps 1) hb3
              have hsl3 := hsl.keep RInt.keeps (Nat.le_refl _) (Nat.le_refl _) (Agree.of_below hb3 (Nat.le_refl _))
              have hbo : ∀ o, Below w3.heap.size w3 (w3.alloc o) := fun o => (Below.refl _ w3).alloc (Nat.le_refl _) o
              have hcol4 := fun o => hcol3.below (RSlice.keeps RInt.keeps 1) (hbo o)
              have hel : ∀ o, RSlice RInt 1 wr.heap.size w2.heap.size (w3.alloc o) (digs k on) [.slice p2 n2 c2] := fun o => ⟨p2, n2, c2, rfl, hsl3.keep RInt.keeps (Nat.le_refl _) (Nat.le_refl _) (Agree.of_below (hbo o) (by omega))⟩
              have hdis : ∀ g, u6.ownBlock = some g ∨ noBlock g → g < wr.heap.size ∨ w2.heap.size ≤ g := fun g hg => .inl (hltw g (hg.resolve_right id)).2
              have hx1 : ∀ o : Obj, w2.heap.size ≤ (w3.alloc o).heap.size := fun o => by simp; omega
              have hx2 : ∀ o : Obj, w1.heap.size ≤ (w3.alloc o).heap.size := fun o => by simp; omega
              have hs1 : ((allUpto S k).length + 1) * 24 ≤ 140737488355328 := by omega
              have hs2 : (allUpto S k).length + 1 ≤ maxLen := by unfold maxLen; omega
              have hb4 : Below w1.heap.size w1 w3 := hb.trans ((hb2.trans (hb3.mono hz3)).mono hz2)
              clear hcol2 hcol3 hsl hsl3 hsw
              go_wp2_with (at_builtin; refine wpList_append_coll rfl _ _ 35 rfl (RSlice.keeps RInt.keeps 1) (hcol4 _) (.slice none 0 0) 24 Try.underlying35 hinfo rfl (by decide) rfl ⟨w3.heap.size, 0, none⟩ 1 [.slice p2 n2 c2] (digs k on) wr.heap.size w2.heap.size rfl (hel _) rfl cell_add hone hz2 (hx1 _) hdis id hs1 hs2 (hx2 _) ?_; rintro v' w4 hc4 hg4)
              have hb5 : Below w1.heap.size w1 w4 := (hb4.alloc (by omega) _).grown hg4 (by simp; omega) (fun j hj => (hltw j hj).1)
              clear hcol4 hel hdis hx1 hx2
              go_roundw
              case rel => exact ⟨k + 1, by omega, by go_num, by rw [Hf.out, Ho.out]; exact hc4, hb5⟩
              case measure => simp [intOf]; omega
          · go_wp2_with fail
            go_ret2
            obtain ⟨p, cap, hv, hsl⟩ := hcol.slice (RSlice.keeps RInt.keeps 1)
            have e1 : allL S = allUpto S k := by rw [allL, Hv.out, if_pos rfl, ← HM2.out, show k = M from by omega]
            have e2 : allE S = 0 := by rw [allE, Hv.out]; rfl
            refine ⟨p, (allUpto S k).length, cap, ret_tup2 hv (congrArg (Value.int .i64) e2.symm), ?_, hbw.trans (hb.mono hbw.size)⟩
            · rw [e1]; exact hsl.keep (RSlice.keeps RInt.keeps 1) hbw.size (Nat.le_refl _) (Agree.refl _ _ _)
end Go.Proofs.Ytpbajggbinljiaa
