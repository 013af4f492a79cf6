/-
  backflushref13.Few: a source is small ('fewB'); backflushlaw13.holds ('holdB'), backflushlaw13.makes ('makesB').
-/
import Derived.Test.YtpbajggbinljiaaOptHole
namespace Go.Proofs.Ytpbajggbinljiaa
set_option linter.unusedVariables false
set_option linter.unusedSimpArgs false
set_option linter.unnecessarySimpa false
set_option linter.unusedSectionVars false
open Go.RowKit Go.Shelf
attribute [local go_sem] cell_re frozen_re size_re

def fewB (S : Src) : Bool := S.options.all (fun n => decide (n ≤ 8)) && (S.forbids.all (fun l => decide (l.length ≤ 6)) && (S.recipes.all (fun r => decide (r.ifs.length ≤ 6)) &&
  (decide (S.options.length ≤ 3) && decide (S.forbids.length ≤ 6) && decide (S.recipes.length ≤ 8) && decide (S.items ≤ 6) && decide (S.plants ≤ 4))))
theorem few1 {S : Src} (h : S.options.all (fun n => decide (n ≤ 8)) = false) : fewB S = false := by simp [fewB, h]
theorem few2 {S : Src} (h : S.forbids.all (fun l => decide (l.length ≤ 6)) = false) : fewB S = false := by simp [fewB, h]
theorem few3 {S : Src} (h : S.recipes.all (fun r => decide (r.ifs.length ≤ 6)) = false) : fewB S = false := by simp [fewB, h]

set_option maxHeartbeats 1600000 in
theorem few_any {lo hi : Nat} {s : SrcV} {S : Src} {w : World} (hs : RSrc lo hi w s S) (hhi : hi ≤ w.heap.size) :
    Calls Try.prog 9 #[.agg s.cells.toArray] w fun e w' => e = .returned (.bool (fewB S)) ∧ Below w.heap.size w w' := by
  have hon := hs.op.nle
  have hfn := hs.fo.nle
  have hrn := hs.re.nle
  have Ho := Lib.hid hs.op.len
  have Hf := Lib.hid hs.fo.len
  have Hr := Lib.hid hs.re.len
  have hit := hs.it
  have hpl := hs.pl
  obtain ⟨⟨up, un, uc⟩, ⟨ip, iN, ic⟩, ⟨pp, pn, pc⟩, ⟨mp, mn, mc⟩, ⟨op, on, oc⟩, ⟨fp, fn, fc⟩, ⟨rp, rn, rc⟩, ⟨sp, sn, sc⟩⟩ := s
  dsimp only at hon hfn hrn Ho Hf Hr hit hpl
  obtain ⟨rfl, hit2⟩ := hit
  obtain ⟨rfl, hpl2⟩ := hpl
  have hb0 : ∀ o1, Below w.heap.size w (w.alloc o1) := fun o1 => (Below.refl _ w).alloc (Nat.le_refl _) _
  have hsw := fun o1 => hs.keep (Nat.le_refl _) (Nat.le_refl _) (Agree.of_below (hb0 o1) hhi)
  go_enter Try.func9, Try.ntmps9
  go_wp2_with fail
  generalize hw1 : (World.alloc _ _ : World) = w1
  have hbw : Below w.heap.size w w1 := by rw [← hw1]; exact hb0 _
  have bx : ∀ j, w1.cell? ⟨w.heap.size, j, none⟩ = [.slice up un uc, .slice ip S.items ic, .slice pp S.plants pc, .slice mp mn mc, .slice op on oc, .slice fp fn fc, .slice rp rn rc, .slice sp sn sc][j]? := fun j => by rw [← hw1]; simp
  have hs1 := hs.keep (Nat.le_refl _) (Nat.le_refl _) (Agree.of_below hbw hhi)
  clear hw1 hsw hs hb0
  go_loop [3] (fun i => ∃ k : Nat, k ≤ on ∧ i = .int .i64 k ∧ Hid ((S.options.take k).all (fun n => decide (n ≤ 8)) = true)) (fun i => on - (intOf i).toNat)
  case atStart => exact ⟨0, Nat.zero_le _, rfl, rfl⟩
  case round =>
    obtain ⟨k, hk, rfl, Hk⟩ := hrel
    by_cases hlt : k < on
    · obtain ⟨x, b, off, nm, p', c', hx, hpe, _, hbh, x1, c0, c1⟩ := slice_opt hs1.op hlt
      dsimp only at hpe
      subst hpe
      have Hx := Lib.hid hx; clear hx
      by_cases g1 : (8 : Int) < (x : Int)
      · have HF := Lib.hid (few1 (allB_false Hx.out (f := fun n => decide (n ≤ 8)) (by simp; omega)))
        go_wp2_with fail
        go_ret
        exact ⟨ret_bool HF.out.symm, hbw⟩
      · have HS1 := Lib.hid (allB_step Hx.out (f := fun n => decide (n ≤ 8)) (by simp; omega) Hk.out)
        go_wp2_with fail
        go_round
        case rel => exact ⟨k + 1, by omega, by go_num, HS1.out⟩
        case measure => simp [intOf]; omega
    · have H1 : Hid (S.options.all (fun n => decide (n ≤ 8)) = true) := by
        show _ = _
        have := Hk.out; rwa [List.take_of_length_le (by rw [Ho.out]; omega)] at this
      clear Hk
      go_wp2_with fail
      go_loop [4] (fun i => ∃ k : Nat, k ≤ fn ∧ i = .int .i64 k ∧ Hid ((S.forbids.take k).all (fun l => decide (l.length ≤ 6)) = true)) (fun i => fn - (intOf i).toNat)
      case atStart => exact ⟨0, Nat.zero_le _, rfl, rfl⟩
      case round =>
        obtain ⟨k2, hk2, rfl, Hk⟩ := hrel
        by_cases hlt2 : k2 < fn
        · obtain ⟨x, b, off, p', n', c', hx, hpe, _, hbh, c0, hl⟩ := slice_cnds hs1.fo hlt2
          dsimp only at hpe
          subst hpe
          have hl1 := hl.len
          have hl2 := hl.nle
          have Hx := Lib.hid hx; clear hx
          by_cases g1 : (6 : Int) < (n' : Int)
          · have HF := Lib.hid (few2 (allB_false Hx.out (f := fun l => decide (l.length ≤ 6)) (by simp; omega)))
            clear hl1
            go_wp2_with fail
            go_ret
            exact ⟨ret_bool HF.out.symm, hbw⟩
          · have HS1 := Lib.hid (allB_step Hx.out (f := fun l => decide (l.length ≤ 6)) (by simp; omega) Hk.out)
            clear hl1
            go_wp2_with fail
            go_round
            case rel => exact ⟨k2 + 1, by omega, by go_num, HS1.out⟩
            case measure => simp [intOf]; omega
        · have H2 : Hid (S.forbids.all (fun l => decide (l.length ≤ 6)) = true) := by
            show _ = _
            have := Hk.out; rwa [List.take_of_length_le (by rw [Hf.out]; omega)] at this
          clear Hk
          go_wp2_with fail
          go_loop [5] (fun i => ∃ k : Nat, k ≤ rn ∧ i = .int .i64 k ∧ Hid ((S.recipes.take k).all (fun r => decide (r.ifs.length ≤ 6)) = true)) (fun i => rn - (intOf i).toNat)
          case atStart => exact ⟨0, Nat.zero_le _, rfl, rfl⟩
          case round =>
            obtain ⟨k3, hk3, rfl, Hk⟩ := hrel
            by_cases hlt3 : k3 < rn
            · obtain ⟨x, b, off, r, p', n', c', hx, hpe, hbh, hif, i1, i2, i3, i4, hc⟩ := slice_rcp hs1.re hlt3
              dsimp only at hpe
              subst hpe
              have c4 := hc 4 _ rfl
              have hl1 := hif.len
              have hl2 := hif.nle
              have Hx := Lib.hid hx; clear hx hc
              by_cases g1 : (6 : Int) < (n' : Int)
              · have HF := Lib.hid (few3 (allB_false Hx.out (f := fun r => decide (r.ifs.length ≤ 6)) (by simp; omega)))
                clear hl1
                go_wp2_with fail
                go_ret
                exact ⟨ret_bool HF.out.symm, hbw⟩
              · have HS1 := Lib.hid (allB_step Hx.out (f := fun r => decide (r.ifs.length ≤ 6)) (by simp; omega) Hk.out)
                clear hl1
                go_wp2_with fail
                go_round
                case rel => exact ⟨k3 + 1, by omega, by go_num, HS1.out⟩
                case measure => simp [intOf]; omega
            · have H3 : Hid (S.recipes.all (fun r => decide (r.ifs.length ≤ 6)) = true) := by
                show _ = _
                have := Hk.out; rwa [List.take_of_length_le (by rw [Hr.out]; omega)] at this
              have HE : Hid (fewB S = (decide (on ≤ 3) && decide (fn ≤ 6) && decide (rn ≤ 8) && decide (S.items ≤ 6) && decide (S.plants ≤ 4))) := by
                show _ = _
                rw [fewB, H1.out, H2.out, H3.out, Ho.out, Hf.out, Hr.out]; rfl
              clear Hk
              by_cases g1 : (on : Int) ≤ 3
              · by_cases g2 : (fn : Int) ≤ 6
                · by_cases g3 : (rn : Int) ≤ 8
                  · by_cases g4 : (S.items : Int) ≤ 6
                    · by_cases g5 : (S.plants : Int) ≤ 4
                      · go_wp2_with fail
                        go_ret
                        exact ⟨ret_bool (by rw [HE.out]; simp; omega), hbw⟩
                      · go_wp2_with fail
                        go_ret
                        exact ⟨ret_bool (by rw [HE.out]; simp; omega), hbw⟩
                    · go_wp2_with fail
                      go_ret
                      exact ⟨ret_bool (by rw [HE.out]; simp; omega), hbw⟩
                  · go_wp2_with fail
                    go_ret
                    exact ⟨ret_bool (by rw [HE.out]; simp; omega), hbw⟩
                · go_wp2_with fail
                  go_ret
                  exact ⟨ret_bool (by rw [HE.out]; simp; omega), hbw⟩
              · go_wp2_with fail
                go_ret
                exact ⟨ret_bool (by rw [HE.out]; simp; omega), hbw⟩
end Go.Proofs.Ytpbajggbinljiaa
