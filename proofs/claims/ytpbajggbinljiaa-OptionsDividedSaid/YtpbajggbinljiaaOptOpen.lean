/-
  How a source that comes in reads ('RSrc').
-/
import Derived.Test.YtpbajggbinljiaaOpen
import Derived.Test.YtpbajggbinljiaaOptRep
namespace Go.Proofs.Ytpbajggbinljiaa
set_option linter.unusedVariables false
set_option linter.unusedSimpArgs false
set_option linter.unnecessarySimpa false
set_option linter.unusedSectionVars false
open Go.ChangeShapes Go.WideShapes Go.RowKit Go.Deep

instance : Inhabited Cnd := ⟨⟨0, 0⟩⟩
instance : Inhabited Rcp := ⟨⟨0, 0, [], 0, 0⟩⟩

theorem opens_cnd : Opens RCnd 79 4 := by
  intro H enc w base spare held fuel cs x h
  have hl := struct_len Try.underlying79 h 4 (by kernel_rfl)
  match cs, hl with
  | [c0, c1, c2, c3], _ =>
  obtain ⟨_, _, h0⟩ := field_at Try.underlying79 h 0 _ rfl 1 (by kernel_rfl) [c0] rfl
  obtain ⟨_, _, h1⟩ := field_at Try.underlying79 h 1 _ rfl 1 (by kernel_rfl) [c1] rfl
  obtain ⟨_, _, h2⟩ := field_at Try.underlying79 h 2 _ rfl 1 (by kernel_rfl) [c2] rfl
  obtain ⟨_, _, h3⟩ := field_at Try.underlying79 h 3 _ rfl 1 (by kernel_rfl) [c3] rfl
  obtain ⟨_, s0, e0, _⟩ := opens_str Try.underlying9 _ _ _ _ _ _ _ _ _ h0
  obtain ⟨_, s1, e1, _⟩ := opens_str Try.underlying9 _ _ _ _ _ _ _ _ _ h1
  obtain ⟨_, s2, e2, w2⟩ := opens_int Try.underlying3 _ _ _ _ _ _ _ _ _ h2
  obtain ⟨_, s3, e3, w3⟩ := opens_int Try.underlying3 _ _ _ _ _ _ _ _ _ h3
  injection e0 with e0; injection e1 with e1; injection e2 with e2; injection e3 with e3
  subst e0 e1 e2 e3
  exact ⟨rfl, ⟨s2, s3⟩, s0, s1, rfl, w2, w3⟩
theorem opens_cnds : Opens RCnds 47 1 := opens_slice opens_cnd Try.underlying47 (by kernel_rfl) (by omega)
theorem opens_forbids : Opens (RSlice RCnds 1) 27 1 := opens_slice opens_cnds Try.underlying27 (by kernel_rfl) (by omega)

theorem opens_opt : Opens ROpt 66 2 := by
  intro H enc w base spare held fuel cs x h
  have hl := struct_len Try.underlying66 h 2 (by kernel_rfl)
  match cs, hl with
  | [c0, c1], _ =>
  obtain ⟨_, _, h0⟩ := field_at Try.underlying66 h 0 _ rfl 1 (by kernel_rfl) [c0] rfl
  obtain ⟨_, _, h1⟩ := field_at Try.underlying66 h 1 _ rfl 1 (by kernel_rfl) [c1] rfl
  obtain ⟨_, s0, e0, _⟩ := opens_str Try.underlying9 _ _ _ _ _ _ _ _ _ h0
  obtain ⟨_, s1, e1, w1, w2⟩ := opens_slice_any Try.underlying24 _ _ _ _ _ _ _ _ _ h1
  injection e0 with e0; injection e1 with e1
  subst e0 e1
  exact ⟨rfl, s1.2.1, s0, s1.1, s1.2.2, rfl, w1, w2⟩
theorem opens_opts : Opens (RSlice ROpt 2) 26 1 := opens_slice opens_opt Try.underlying26 (by kernel_rfl) (by omega)

set_option maxHeartbeats 1600000 in
theorem opens_rcp : Opens RRcp 60 17 := by
  intro H enc w base spare held fuel cs x h
  have hl := struct_len Try.underlying60 h 17 (by kernel_rfl)
  match cs, hl with
  | [c0, c1, c2, c3, c4, c5, c6, c7, c8, c9, c10, c11, c12, c13, c14, c15, c16], _ =>
  obtain ⟨_, _, h0⟩ := field_at Try.underlying60 h 0 _ rfl 1 (by kernel_rfl) [c0] rfl
  obtain ⟨_, s0, e0, _⟩ := opens_str Try.underlying9 _ _ _ _ _ _ _ _ _ h0
  obtain ⟨_, _, h1⟩ := field_at Try.underlying60 h 1 _ rfl 1 (by kernel_rfl) [c1] rfl
  obtain ⟨_, s1, e1, _⟩ := opens_str Try.underlying9 _ _ _ _ _ _ _ _ _ h1
  obtain ⟨_, _, h2⟩ := field_at Try.underlying60 h 2 _ rfl 1 (by kernel_rfl) [c2] rfl
  obtain ⟨_, s2, e2, w2⟩ := opens_int Try.underlying3 _ _ _ _ _ _ _ _ _ h2
  obtain ⟨_, _, h3⟩ := field_at Try.underlying60 h 3 _ rfl 1 (by kernel_rfl) [c3] rfl
  obtain ⟨_, s3, e3, w3⟩ := opens_int Try.underlying3 _ _ _ _ _ _ _ _ _ h3
  obtain ⟨_, _, h4⟩ := field_at Try.underlying60 h 4 _ rfl 1 (by kernel_rfl) [c4] rfl
  obtain ⟨_, s4, p4, n4, k4, e4, w4⟩ := opens_cnds _ _ _ _ _ _ _ _ _ h4
  obtain ⟨_, _, h5⟩ := field_at Try.underlying60 h 5 _ rfl 1 (by kernel_rfl) [c5] rfl
  obtain ⟨_, s5, e5, w5, _⟩ := opens_slice_any Try.underlying57 _ _ _ _ _ _ _ _ _ h5
  obtain ⟨_, _, h6⟩ := field_at Try.underlying60 h 6 _ rfl 1 (by kernel_rfl) [c6] rfl
  obtain ⟨_, s6, e6, w6, _⟩ := opens_slice_any Try.underlying57 _ _ _ _ _ _ _ _ _ h6
  obtain ⟨_, _, h7⟩ := field_at Try.underlying60 h 7 _ rfl 1 (by kernel_rfl) [c7] rfl
  obtain ⟨_, s7, e7, w7⟩ := opens_int Try.underlying3 _ _ _ _ _ _ _ _ _ h7
  obtain ⟨_, _, h8⟩ := field_at Try.underlying60 h 8 _ rfl 1 (by kernel_rfl) [c8] rfl
  obtain ⟨_, s8, e8, w8⟩ := opens_int Try.underlying3 _ _ _ _ _ _ _ _ _ h8
  obtain ⟨_, _, h9⟩ := field_at Try.underlying60 h 9 _ rfl 1 (by kernel_rfl) [c9] rfl
  obtain ⟨_, s9, e9, w9⟩ := opens_int Try.underlying3 _ _ _ _ _ _ _ _ _ h9
  obtain ⟨_, _, h10⟩ := field_at Try.underlying60 h 10 _ rfl 1 (by kernel_rfl) [c10] rfl
  obtain ⟨_, s10, e10, w10⟩ := opens_int Try.underlying3 _ _ _ _ _ _ _ _ _ h10
  obtain ⟨_, _, h11⟩ := field_at Try.underlying60 h 11 _ rfl 1 (by kernel_rfl) [c11] rfl
  obtain ⟨_, s11, e11, w11⟩ := opens_int Try.underlying3 _ _ _ _ _ _ _ _ _ h11
  obtain ⟨_, _, h12⟩ := field_at Try.underlying60 h 12 _ rfl 1 (by kernel_rfl) [c12] rfl
  obtain ⟨_, s12, e12, w12⟩ := opens_int Try.underlying3 _ _ _ _ _ _ _ _ _ h12
  obtain ⟨_, _, h13⟩ := field_at Try.underlying60 h 13 _ rfl 1 (by kernel_rfl) [c13] rfl
  obtain ⟨_, s13, e13, w13⟩ := opens_int Try.underlying3 _ _ _ _ _ _ _ _ _ h13
  obtain ⟨_, _, h14⟩ := field_at Try.underlying60 h 14 _ rfl 1 (by kernel_rfl) [c14] rfl
  obtain ⟨_, s14, e14, w14, _⟩ := opens_slice_any Try.underlying58 _ _ _ _ _ _ _ _ _ h14
  obtain ⟨_, _, h15⟩ := field_at Try.underlying60 h 15 _ rfl 1 (by kernel_rfl) [c15] rfl
  obtain ⟨_, s15, e15, w15⟩ := opens_int Try.underlying3 _ _ _ _ _ _ _ _ _ h15
  obtain ⟨_, _, h16⟩ := field_at Try.underlying60 h 16 _ rfl 1 (by kernel_rfl) [c16] rfl
  obtain ⟨_, s16, e16, w16⟩ := opens_int Try.underlying3 _ _ _ _ _ _ _ _ _ h16
  injection e0 with e0; injection e1 with e1; injection e2 with e2; injection e3 with e3; injection e4 with e4; injection e5 with e5; injection e6 with e6; injection e7 with e7; injection e8 with e8
  injection e9 with e9; injection e10 with e10; injection e11 with e11; injection e12 with e12; injection e13 with e13; injection e14 with e14; injection e15 with e15; injection e16 with e16
  subst e0 e1 e2 e3 e4 e5 e6 e7 e8 e9 e10 e11 e12 e13 e14 e15 e16
  exact ⟨rfl, ⟨s2, s3, s4, s15, s16⟩, ⟨s0, s1, s5.1, s5.2.1, s5.2.2, s6.1, s6.2.1, s6.2.2, s7, s8, s9, s10, s11, s12, s13, s14.1, s14.2.1, s14.2.2⟩, p4, n4, k4, rfl, w4, w2, w3, w15, w16⟩
theorem opens_rcps : Opens (RSlice RRcp 17) 28 1 := opens_slice opens_rcp Try.underlying28 (by kernel_rfl) (by omega)

def RSrcV : Rel (SrcV × Src) := fun lo hi w x vs => vs = x.1.cells ∧ RSrc lo hi w x.1 x.2
theorem opens_src : Opens RSrcV 31 8 := by
  intro H enc w base spare held fuel cs x h
  have hl := struct_len Try.underlying31 h 8 (by kernel_rfl)
  match cs, hl with
  | [c0, c1, c2, c3, c4, c5, c6, c7], _ =>
  obtain ⟨_, _, h0⟩ := field_at Try.underlying31 h 0 _ rfl 1 (by kernel_rfl) [c0] rfl
  obtain ⟨_, s0, e0, _⟩ := opens_slice_any Try.underlying22 _ _ _ _ _ _ _ _ _ h0
  obtain ⟨_, _, h1⟩ := field_at Try.underlying31 h 1 _ rfl 1 (by kernel_rfl) [c1] rfl
  obtain ⟨_, s1, e1, w1, v1⟩ := opens_slice_any Try.underlying23 _ _ _ _ _ _ _ _ _ h1
  obtain ⟨_, _, h2⟩ := field_at Try.underlying31 h 2 _ rfl 1 (by kernel_rfl) [c2] rfl
  obtain ⟨_, s2, e2, w2, v2⟩ := opens_slice_any Try.underlying24 _ _ _ _ _ _ _ _ _ h2
  obtain ⟨_, _, h3⟩ := field_at Try.underlying31 h 3 _ rfl 1 (by kernel_rfl) [c3] rfl
  obtain ⟨_, s3, e3, _⟩ := opens_slice_any Try.underlying25 _ _ _ _ _ _ _ _ _ h3
  obtain ⟨_, _, h4⟩ := field_at Try.underlying31 h 4 _ rfl 1 (by kernel_rfl) [c4] rfl
  obtain ⟨_, s4, p4, n4, k4, e4, w4⟩ := opens_opts _ _ _ _ _ _ _ _ _ h4
  obtain ⟨_, _, h5⟩ := field_at Try.underlying31 h 5 _ rfl 1 (by kernel_rfl) [c5] rfl
  obtain ⟨_, s5, p5, n5, k5, e5, w5⟩ := opens_forbids _ _ _ _ _ _ _ _ _ h5
  obtain ⟨_, _, h6⟩ := field_at Try.underlying31 h 6 _ rfl 1 (by kernel_rfl) [c6] rfl
  obtain ⟨_, s6, p6, n6, k6, e6, w6⟩ := opens_rcps _ _ _ _ _ _ _ _ _ h6
  obtain ⟨_, _, h7⟩ := field_at Try.underlying31 h 7 _ rfl 1 (by kernel_rfl) [c7] rfl
  obtain ⟨_, s7, e7, _⟩ := opens_slice_any Try.underlying29 _ _ _ _ _ _ _ _ _ h7
  injection e0 with e0; injection e1 with e1; injection e2 with e2; injection e3 with e3; injection e4 with e4; injection e5 with e5; injection e6 with e6; injection e7 with e7
  subst e0 e1 e2 e3 e4 e5 e6 e7
  exact ⟨rfl, ⟨⟨⟨s0.1, s0.2.1, s0.2.2⟩, ⟨s1.1, s1.2.1, s1.2.2⟩, ⟨s2.1, s2.2.1, s2.2.2⟩, ⟨s3.1, s3.2.1, s3.2.2⟩, ⟨p4, n4, k4⟩, ⟨p5, n5, k5⟩, ⟨p6, n6, k6⟩, ⟨s7.1, s7.2.1, s7.2.2⟩⟩, ⟨s4, s5, s6, s1.2.1, s2.2.1⟩⟩, rfl, ⟨w4, w5, w6, ⟨rfl, Nat.le_trans w1 v1⟩, ⟨rfl, Nat.le_trans w2 v2⟩⟩⟩
theorem opens_ints : Opens (RSlice RInt 1) 32 1 := opens_slice (opens_int Try.underlying3) Try.underlying32 (by kernel_rfl) (by omega)
theorem wf_u64 {x : Int} (h : (Lit.int .u64 x).wf = true) : 0 ≤ x ∧ x ≤ 18446744073709551615 := by
  simp only [Lit.wf, Bool.and_eq_true, decide_eq_true_eq] at h
  exact h
theorem wf_u8 {x : Int} (h : (Lit.int .u8 x).wf = true) : 0 ≤ x ∧ x ≤ 255 := by
  simp only [Lit.wf, Bool.and_eq_true, decide_eq_true_eq] at h
  exact h
end Go.Proofs.Ytpbajggbinljiaa
