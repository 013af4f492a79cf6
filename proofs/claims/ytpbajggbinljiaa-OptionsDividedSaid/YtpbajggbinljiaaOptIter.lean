/-
  slices.Clone at ints; the iterator options.configs hands back: it yields 'allL', one configuration after the other, each in new memory.
-/
import Derived.Test.YtpbajggbinljiaaOptEnum
import Derived.Test.YtpbajggbinljiaaOptSeq
import Derived.Sort.LoopGhostIn
import Derived.Sort.QuietIn
import Derived.Sort.BigQuietIn
import Derived.Sort.CutIn
namespace Go.Proofs.Ytpbajggbinljiaa
set_option linter.unusedVariables false
set_option linter.unusedSimpArgs false
set_option linter.unnecessarySimpa false
set_option linter.unusedSectionVars false
open Go.RowKit Go.Shelf

theorem append_ints {w : World} {lo hi : Nat} {b off n cap : Nat} {l : List Int} (t ty : TypeId) (ht : Try.prog.underlying t = some (.slice 3)) (hs : SliceOf RInt 1 lo hi w (some ⟨b, off, none⟩) n cap l) (hn : n ≤ 1000000) {g : Nat} (hg : w.heap[g]? = some (.cells #[] 3 (0, 0))) {base : Nat} (hb : base ≤ g) :
    ∃ v w', (Builtin.append_ #[t, t] ty #[.slice (some ⟨g, 0, none⟩) 0 0, .slice (some ⟨b, off, none⟩) n cap]).run Try.prog w = .ok v w' ∧ w'.ownsRow base 3 1 v n (l.map (Value.int .i64)) ∧ w.grownBy w' (some g) := by
  have hinfo : (Try.prog.info? 3).map (fun i => (i.zero, i.size, i.bytes)) = some (some (.int .i64 0), 1, 8) := by kernel_rfl
  obtain ⟨i, hi1, hi2⟩ := Option.map_eq_some_iff.1 hinfo
  simp only [Prod.mk.injEq] at hi2
  obtain ⟨hz, hsi, hby⟩ := hi2
  have hown : w.ownsRow base 3 1 (.slice (some ⟨g, 0, none⟩) 0 0) 0 [] := ⟨by simp, .inr ⟨g, 0, #[], rfl, hb, hg, by omega, by simp, by simp, by simp⟩⟩
  have hlen := hs.len
  obtain ⟨v, w', hr, h2, h3, _⟩ := run_append_own (P := Try.prog) w base t ty 3 i (.int .i64 0) 1 8 ht hi1 hz hsi hby rfl (by decide) (.slice (some ⟨g, 0, none⟩) 0 0) 0 [] hown ⟨b, off, none⟩ n cap (l.map (Value.int .i64)) (by simp [hlen])
    (fun j u hj => by
      rw [List.getElem?_map] at hj
      obtain ⟨x, hx, rfl⟩ := Option.map_eq_some_iff.1 hj
      obtain ⟨b', off', vs, hp, _, _, ⟨rfl, _⟩, _, hc⟩ := hs.get j x hx
      simp only [Option.some.injEq, Addr.mk.injEq] at hp
      obtain ⟨rfl, rfl, _⟩ := hp
      have := hc 0 _ rfl
      simp only [Nat.mul_one, Nat.add_zero] at this
      unfold Addr.add
      split
      · rename_i h0; subst h0; simpa using this
      · exact this)
    (fun u hu => by obtain ⟨x, _, rfl⟩ := List.mem_map.1 hu; rfl) (by unfold maxLen; omega) (by omega) (Nat.le_trans hb (Nat.le_of_lt (Array.getElem?_eq_some_iff.1 hg).1))
  exact ⟨v, w', hr, by simpa using h2, h3⟩

set_option maxHeartbeats 400000 in
theorem clone_any {lo hi : Nat} {b off n cap : Nat} {l : List Int} {w : World} (hs : SliceOf RInt 1 lo hi w (some ⟨b, off, none⟩) n cap l) (hhi : hi ≤ w.heap.size) (hn : n ≤ 1000000) (hw : ∀ x ∈ l, IsI64 x) :
    Calls Try.prog 41 #[.slice (some ⟨b, off, none⟩) n cap] w (GivesInts w l) := by
  have qT : ∀ (w : World) (a : Option Addr) (n c n' c' : Nat), (binOp .eql 32 (.slice a n c) (.slice none n' c')).run Try.prog w = .ok (.bool a.isNone) w := fun w a n c n' c' => Lib.run_eql_slice_nil w _ _ a n c n' c' Try.underlying32
  have hg : (w.alloc (.cells #[] 3)).heap[w.heap.size]? = some (.cells #[] 3 (0, 0)) := heap_alloc_new _ _
  obtain ⟨v, w', hr, h2, h3⟩ := append_ints 32 32 Try.underlying32 (hs.keep RInt.keeps (Nat.le_refl _) (Nat.le_refl _) (Agree.of_below ((Below.refl _ w).alloc (Nat.le_refl _) (.cells #[] 3)) hhi)) hn hg (Nat.le_refl _)
  have H2 := Lib.hid h2; have H3 := Lib.hid h3; have HG := Lib.hid hg; have HS := Lib.hid hs; have HR := Lib.hid hr
  clear h2 h3 hg hs hr
  go_enter Try.func41, Try.ntmps41
  go_wp2_with (at_builtin; refine wpList_append_eq rfl _ _ 32 32 rfl rfl rfl rfl HR.out ?_)
  go_ret
  have hl := HS.out.len
  obtain ⟨p, c, hv, hsl⟩ := slice_of_owns (R := RInt) (l := l) (lo := w.heap.size) (hi := w'.heap.size) H2.out hl (Nat.le_refl _) (Nat.le_refl _) fun i x hx => ⟨[.int .i64 x], ⟨rfl, hw x (List.mem_of_getElem? hx)⟩, rfl, fun j u hj => by
    match j with
    | 0 =>
      simp only [List.getElem?_cons_zero, Option.some.injEq] at hj
      subst hj
      simp [List.getElem?_map, hx]
    | j + 1 => simp at hj⟩
  exact ⟨p, n, c, by subst hv; rfl, hsl, ((Below.refl _ w).alloc (Nat.le_refl _) _).grown H3.out (by simp) (fun k e => by cases e; exact Nat.le_refl _)⟩
end Go.Proofs.Ytpbajggbinljiaa
