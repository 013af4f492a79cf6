/-
  The Go functions options.valid, backflushref13.options (they compute 'validB'), options.code, backflushref13.code ('codeZ'), backflushref13.hold ('holdB'), backflushlaw13.holds ('holdB'), backflushref13.digits ('digs').
-/
import Derived.Test.YtpbajggbinljiaaOptHold
namespace Go.Proofs.Ytpbajggbinljiaa
set_option linter.unusedVariables false
set_option linter.unusedSimpArgs false
set_option linter.unnecessarySimpa false
set_option linter.unusedSectionVars false
open Go.RowKit

/-- the options are valid -/
def optB (n : Nat) : Bool := decide (1 ≤ n) && decide (n ≤ 4)
def validB (S : Src) : Bool := decide (S.options.length ≤ 6) && S.options.all optB
theorem allB_false {α : Type} {f : α → Bool} {l : List α} {k : Nat} {x : α} (hx : l[k]? = some x) (h : f x = false) : l.all f = false := by
  rw [List.all_eq_false]; exact ⟨x, List.mem_of_getElem? hx, by simp [h]⟩
theorem allB_step {α : Type} {f : α → Bool} {l : List α} {k : Nat} {x : α} (hx : l[k]? = some x) (h : f x = true) (hk : (l.take k).all f = true) : (l.take (k + 1)).all f = true := by
  rw [take_succ_some hx, List.all_append, hk]; simp [h]
theorem validB_great {S : Src} (h : 6 < S.options.length) : validB S = false := by simp [validB]; omega
theorem validB_false {S : Src} {k : Nat} {x : Nat} (hx : S.options[k]? = some x) (h : optB x = false) : validB S = false := by
  unfold validB; rw [allB_false hx h, Bool.and_false]
theorem validB_true {S : Src} (h : S.options.length ≤ 6) (hk : S.options.all optB = true) : validB S = true := by simp [validB, h, hk]

set_option maxHeartbeats 400000 in
theorem valid_any {lo hi : Nat} {s : SrcV} {S : Src} {w : World} (hs : RSrc lo hi w s S) (hhi : hi ≤ w.heap.size) :
    Calls Try.prog 26 #[.agg s.cells.toArray] w fun e w' => e = .returned (.bool (validB S)) ∧ Below w.heap.size w w' := by
  have hop := hs.op
  have hn := hop.nle
  have Hl := Lib.hid hop.len
  clear hs
  obtain ⟨⟨up, un, uc⟩, ⟨ip, iN, ic⟩, ⟨pp, pn, pc⟩, ⟨mp, mn, mc⟩, ⟨op, on, oc⟩, ⟨fp, fn, fc⟩, ⟨rp, rn, rc⟩, ⟨sp, sn, sc⟩⟩ := s
  dsimp only [SrcV.cells] at *
  by_cases h6 : 6 < on
  · have h6' : (6 : Int) < (on : Int) := by omega
    have Hf := Lib.hid (validB_great (S := S) (by rw [Hl.out]; exact h6))
    go_enter Try.func26, Try.ntmps26
    go_wp2
    go_ret
    exact ⟨ret_bool Hf.out.symm, (Below.refl _ _).alloc (Nat.le_refl _) _⟩
  · have h6' : ¬ (6 : Int) < (on : Int) := by omega
    go_enter Try.func26, Try.ntmps26
    go_wp2
    go_loopw [12] (fun i wr => ∃ k : Nat, k ≤ on ∧ i = .int .i64 k ∧ Hid ((S.options.take k).all optB = true) ∧ Below w.heap.size w wr) (fun i _ => on - (intOf i).toNat)
    case atStart => exact ⟨0, Nat.zero_le _, rfl, rfl, (Below.refl _ _).alloc (Nat.le_refl _) _⟩
    case round =>
      obtain ⟨k, hk, rfl, Hk, hb⟩ := hrel
      have hz := hb.size
      by_cases hlt : k < on
      · obtain ⟨x, b, off, nm, p', c', hx, rfl, _, hbh, x1, c0, c1⟩ := slice_opt (hop.keep ROpt.keeps (Nat.le_refl _) (Nat.le_refl _) (Agree.of_below hb hhi)) hlt
        have Hx := Lib.hid hx; clear hx
        have hbw : b < wr.heap.size := by omega
        by_cases g1 : x < 1
        · have g1' : (x : Int) < 1 := by omega
          have Hf := Lib.hid (validB_false Hx.out (by simp [optB]; omega))
          go_wp2
          go_ret
          exact ⟨ret_bool Hf.out.symm, hb.alloc hb.size _⟩
        · have g1' : ¬ (x : Int) < 1 := by omega
          have g1'' : decide ((x : Int) < 1) = false := by simpa using g1'
          by_cases g2 : 4 < x
          · have g2' : (4 : Int) < (x : Int) := by omega
            have Hf := Lib.hid (validB_false Hx.out (by simp [optB]; omega))
            go_wp2
            go_ret
            exact ⟨ret_bool Hf.out.symm, hb.alloc hb.size _⟩
          · have g2' : ¬ (4 : Int) < (x : Int) := by omega
            have g2'' : decide ((4 : Int) < (x : Int)) = false := by simpa using g2'
            have Hf := Lib.hid (allB_step Hx.out (f := optB) (by simp [optB]; omega) Hk.out)
            go_wp2
            go_roundw
            case rel => exact ⟨k + 1, by omega, by go_num, Hf.out, hb.alloc hb.size _⟩
            case measure => simp [intOf]; omega
      · have Hf := Lib.hid (validB_true (S := S) (by rw [Hl.out]; omega) (by have := Hk.out; rwa [List.take_of_length_le (by rw [Hl.out]; omega)] at this))
        go_wp2
        go_ret
        exact ⟨ret_bool Hf.out.symm, hb⟩

set_option maxHeartbeats 400000 in
theorem refOptions_any {lo hi : Nat} {s : SrcV} {S : Src} {w : World} (hs : RSrc lo hi w s S) (hhi : hi ≤ w.heap.size) :
    Calls Try.prog 29 #[.agg s.cells.toArray] w fun e w' => e = .returned (.bool (validB S)) ∧ Below w.heap.size w w' := by
  have hop := hs.op
  have hn := hop.nle
  have Hl := Lib.hid hop.len
  clear hs
  obtain ⟨⟨up, un, uc⟩, ⟨ip, iN, ic⟩, ⟨pp, pn, pc⟩, ⟨mp, mn, mc⟩, ⟨op, on, oc⟩, ⟨fp, fn, fc⟩, ⟨rp, rn, rc⟩, ⟨sp, sn, sc⟩⟩ := s
  dsimp only [SrcV.cells] at *
  go_enter Try.func29, Try.ntmps29
  go_wp2
  go_loop [3] (fun i => ∃ k : Nat, k ≤ on ∧ i = .int .i64 k ∧ Hid ((S.options.take k).all optB = true)) (fun i => on - (intOf i).toNat)
  case atStart => exact ⟨0, Nat.zero_le _, rfl, rfl⟩
  case round =>
    obtain ⟨k, hk, rfl, Hk⟩ := hrel
    by_cases hlt : k < on
    · obtain ⟨x, b, off, nm, p', c', hx, rfl, _, hbh, x1, c0, c1⟩ := slice_opt hop hlt
      have Hx := Lib.hid hx; clear hx
      have hbw : b < w.heap.size := by omega
      by_cases g1 : x < 1
      · have g1' : (x : Int) < 1 := by omega
        have Hf := Lib.hid (validB_false Hx.out (by simp [optB]; omega))
        go_wp2
        go_ret
        exact ⟨ret_bool Hf.out.symm, (Below.refl _ _).alloc (Nat.le_refl _) _⟩
      · have g1' : ¬ (x : Int) < 1 := by omega
        have g1'' : decide ((x : Int) < 1) = false := by simpa using g1'
        by_cases g2 : 4 < x
        · have g2' : (4 : Int) < (x : Int) := by omega
          have Hf := Lib.hid (validB_false Hx.out (by simp [optB]; omega))
          go_wp2
          go_ret
          exact ⟨ret_bool Hf.out.symm, (Below.refl _ _).alloc (Nat.le_refl _) _⟩
        · have g2' : ¬ (4 : Int) < (x : Int) := by omega
          have g2'' : decide ((4 : Int) < (x : Int)) = false := by simpa using g2'
          have Hf := Lib.hid (allB_step Hx.out (f := optB) (by simp [optB]; omega) Hk.out)
          go_wp2
          go_round
          case rel => exact ⟨k + 1, by omega, by go_num, Hf.out⟩
          case measure => simp [intOf]; omega
    · have Hk2 := Lib.hid (by have := Hk.out; rwa [List.take_of_length_le (by rw [Hl.out]; omega)] at this : S.options.all optB = true)
      have Hf : Hid (validB S = decide ((on : Int) ≤ 6)) := by
        show _ = _
        unfold validB
        rw [Hk2.out, Hl.out, Bool.and_true]
        exact decide_eq_decide.2 (by omega)
      go_wp2
      go_ret
      exact ⟨ret_bool (by first | exact Hf.out.symm | (rw [Hf.out]; simp; omega)), (Below.refl _ _).alloc (Nat.le_refl _) _⟩

/-- a configuration's code -/
def codeZ (c : List Int) : Int := c.foldl (fun n x => n * 4 + x) 0
theorem codeZ_snoc (l : List Int) (x : Int) : codeZ (l ++ [x]) = codeZ l * 4 + x := by simp [codeZ]
/-- the elements are digits to the base 4, at most six -/
def Dig (c : List Int) : Prop := c.length ≤ 6 ∧ ∀ x ∈ c, 0 ≤ x ∧ x ≤ 3
theorem codeZ_take {c : List Int} (h : ∀ x ∈ c, 0 ≤ x ∧ x ≤ 3) : ∀ k, 0 ≤ codeZ (c.take k) ∧ codeZ (c.take k) < 4 ^ (c.take k).length := by
  intro k
  induction k with
  | zero => simp [codeZ]
  | succ k ih =>
    cases hx : c[k]? with
    | none => rw [List.take_add_one, hx]; simpa using ih
    | some x =>
      have hm := h x (List.mem_of_getElem? hx)
      rw [take_succ_some hx, codeZ_snoc, List.length_append]
      simp only [List.length_cons, List.length_nil, Nat.zero_add, Int.pow_succ]
      omega
theorem codeZ_small {c : List Int} (h : Dig c) (k : Nat) : 0 ≤ codeZ (c.take k) ∧ codeZ (c.take k) < 4096 := by
  have h1 := codeZ_take h.2 k
  have h2 : (c.take k).length ≤ 6 := by rw [List.length_take]; have := h.1; omega
  have h3 : (4 : Int) ^ (c.take k).length ≤ 4 ^ 6 := by
    have := Nat.pow_le_pow_right (n := 4) (by omega) h2
    exact_mod_cast this
  omega

set_option maxHeartbeats 400000 in
theorem code_any {lo hi : Nat} {p : Option Addr} {n cap : Nat} {c : List Int} {w : World} (hc : SliceOf RInt 1 lo hi w p n cap c) (hd : Dig c) :
    Calls Try.prog 31 #[.slice p n cap] w fun e w' => e = .returned (.int .i64 (codeZ c)) ∧ w = w' := by
  have hn := hc.nle
  have Hl := Lib.hid hc.len
  go_enter Try.func31, Try.ntmps31
  go_wp2
  go_loop [2, 7] (fun t i => ∃ k : Nat, k ≤ n ∧ i = .int .i64 k ∧ t = .int .i64 (codeZ (c.take k))) (fun _ i => n - (intOf i).toNat)
  case atStart => exact ⟨0, Nat.zero_le _, rfl, rfl⟩
  case round =>
    obtain ⟨k, hk, rfl, rfl⟩ := hrel
    obtain ⟨z1, z2⟩ := codeZ_small hd k
    by_cases hlt : k < n
    · obtain ⟨x, b, off, hx, rfl, _, hbh, x1, x2, c0⟩ := slice_int hc hlt
      obtain ⟨d1, d2⟩ := hd.2 x (List.mem_of_getElem? hx)
      have Hs := Lib.hid (by rw [take_succ_some hx]; exact codeZ_snoc _ _ : codeZ (c.take (k + 1)) = codeZ (c.take k) * 4 + x)
      clear hx
      go_wp2
      go_round
      case rel => exact ⟨k + 1, by omega, by go_num, by rw [Hs.out]⟩
      case measure => simp [intOf]; omega
    · have Hf := Lib.hid (by rw [List.take_of_length_le (by rw [Hl.out]; omega)] : c.take k = c)
      go_wp2
      go_ret
      exact ⟨ret_int (by rw [Hf.out]), rfl⟩

set_option maxHeartbeats 400000 in
theorem refCode_any {lo hi : Nat} {p : Option Addr} {n cap : Nat} {c : List Int} {w : World} (hc : SliceOf RInt 1 lo hi w p n cap c) (hd : Dig c) :
    Calls Try.prog 32 #[.slice p n cap] w fun e w' => e = .returned (.int .i64 (codeZ c)) ∧ w = w' := by
  have hn := hc.nle
  have Hl := Lib.hid hc.len
  go_enter Try.func32, Try.ntmps32
  go_wp2
  go_loop [3, 4] (fun t i => ∃ k : Nat, k ≤ n ∧ i = .int .i64 k ∧ t = .int .i64 (codeZ (c.take k))) (fun _ i => n - (intOf i).toNat)
  case atStart => exact ⟨0, Nat.zero_le _, rfl, rfl⟩
  case round =>
    obtain ⟨k, hk, rfl, rfl⟩ := hrel
    obtain ⟨z1, z2⟩ := codeZ_small hd k
    by_cases hlt : k < n
    · obtain ⟨x, b, off, hx, rfl, _, hbh, x1, x2, c0⟩ := slice_int hc hlt
      obtain ⟨d1, d2⟩ := hd.2 x (List.mem_of_getElem? hx)
      have Hs := Lib.hid (by rw [take_succ_some hx, codeZ_snoc]; omega : codeZ (c.take (k + 1)) = 4 * codeZ (c.take k) + x)
      clear hx
      go_wp2
      go_round
      case rel => exact ⟨k + 1, by omega, by go_num, by rw [Hs.out]⟩
      case measure => simp [intOf]; omega
    · have Hf := Lib.hid (by rw [List.take_of_length_le (by rw [Hl.out]; omega)] : c.take k = c)
      go_wp2
      go_ret
      exact ⟨ret_int (by rw [Hf.out]), rfl⟩

/-- the digits of n to the base 4, so many -/
def digs (n : Nat) : Nat → List Int
  | 0 => []
  | m + 1 => digs (n / 4) m ++ [((n % 4 : Nat) : Int)]
theorem digs_length (n m : Nat) : (digs n m).length = m := by
  induction m generalizing n with
  | zero => rfl
  | succ m ih => simp [digs, ih]
theorem digs_range (n m : Nat) : ∀ x ∈ digs n m, 0 ≤ x ∧ x ≤ 3 := by
  induction m generalizing n with
  | zero => simp [digs]
  | succ m ih =>
    intro x hx
    simp only [digs, List.mem_append, List.mem_singleton] at hx
    rcases hx with hx | rfl
    · exact ih _ x hx
    · omega
/-- A list's answer: a slice in new memory. -/
def GivesInts (w : World) (l : List Int) (e : Ending) (w' : World) : Prop :=
  ∃ p n cap, e = .returned (.slice p n cap) ∧ SliceOf RInt 1 w.heap.size w'.heap.size w' p n cap l ∧ Below w.heap.size w w'
theorem set_rep {r : Nat} {z v : Value} {suf : List Value} : (List.replicate (r + 1) z ++ suf).set r v = List.replicate r z ++ v :: suf := by
  rw [List.replicate_succ', List.append_assoc]
  rw [List.set_append_right r v (by simp)]
  simp

set_option maxHeartbeats 400000 in
theorem digits_any (n m : Nat) (w : World) (hn : n ≤ 9223372036854775807) (hm : m ≤ 6) :
    Calls Try.prog 30 #[.int .i64 n, .int .i64 m] w (GivesInts w (digs n m)) := by
  have hmk := run_make_row' (P := Try.prog) 32 3 (.int .i64 0) 8 Try.underlying32 (by kernel_rfl) rfl .i64 .i64 m (by omega) (by omega)
  have hi0 : Own (w.alloc (.cells (madeCells #[Value.int .i64 0] m) 3)) w.heap.size 3 (List.replicate m (.int .i64 0)) := Own.made _ _ _ _
  go_enter Try.func30, Try.ntmps30
  go_wp2
  clear hmk
  go_loopw [0, 6] (fun t i wr => ∃ (r k : Nat) (suf : List Int), t = .int .i64 k ∧ i = .int .i64 ((r : Int) - 1) ∧ r ≤ m ∧ k ≤ 9223372036854775807 ∧ Hid (digs n m = digs k r ++ suf) ∧ Own wr w.heap.size 3 (List.replicate r (.int .i64 0) ++ suf.map (Value.int .i64)) ∧ Below w.heap.size w wr) (fun _ i _ => (intOf i + 1).toNat)
  case atStart => exact ⟨m, n, [], rfl, rfl, Nat.le_refl _, hn, by show _ = _; simp, by simpa using hi0, (Below.refl _ _).alloc (Nat.le_refl _) _⟩
  case round =>
    obtain ⟨r, k, suf, rfl, rfl, hr, hk, Hd, ho, hb⟩ := hrel
    have hz := ho.lt
    match r, hr, Hd, ho with
    | 0, hr, Hd, ho =>
      simp only [digs, List.nil_append, List.replicate_zero] at Hd ho
      go_wp2
      go_ret
      have hl : suf.length = m := by rw [← show digs n m = suf from Hd, digs_length]
      have hsr : ∀ x ∈ suf, 0 ≤ x ∧ x ≤ 3 := by rw [← show digs n m = suf from Hd]; exact digs_range _ _
      refine ⟨_, _, _, rfl, ?_, hb⟩
      rw [show digs n m = suf from Hd]
      have := ho.ints (lo := w.heap.size) (hi := wr.heap.size) (by omega) (Nat.le_refl _) hz (fun x hx => ⟨by have := hsr x hx; omega, by have := hsr x hx; omega⟩)
      rwa [hl] at this
    | r + 1, hr, Hd, ho =>
      have e1 : ((r + 1 : Nat) : Int) - 1 = (r : Int) := by omega
      rw [e1]
      have hcell : wr.cell? ⟨w.heap.size, r, none⟩ = some (.int .i64 0) := ho.cell (by rw [List.getElem?_append_left (by simp)]; simp)
      have hfz := ho.frozen r
      have Ho := Lib.hid (set_rep ▸ ho.set r (.int .i64 ((k % 4 : Nat) : Int)))
      have hq : k / 4 ≤ 9223372036854775807 := by omega
      have Hd2 : Hid (digs n m = digs (k / 4) r ++ (((k % 4 : Nat) : Int) :: suf)) := by
        show _ = _
        rw [show digs n m = _ from Hd]
        simp [digs]
      clear Hd ho e1
      go_wp2
      go_roundw
      case rel => exact ⟨r, k / 4, _ :: suf, by go_num, by go_num, by omega, hq, Hd2, by have := Ho.out; simpa using this, hb.setCell (p := ⟨w.heap.size, r, none⟩) (Nat.le_refl _) _⟩
      case measure => simp [intOf]
end Go.Proofs.Ytpbajggbinljiaa
