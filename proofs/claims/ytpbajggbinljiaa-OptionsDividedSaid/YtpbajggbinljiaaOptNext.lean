/-
  Plain: the next configuration of a source with valid options; which configurations have come when it is met.
-/
import Derived.Test.YtpbajggbinljiaaOptEnum
namespace Go.Proofs.Ytpbajggbinljiaa
set_option linter.unusedVariables false
set_option linter.unusedSimpArgs false
set_option linter.unnecessarySimpa false
set_option linter.unusedSectionVars false

/-- a configuration of S -/
structure Cfg (S : Src) (c : List Int) : Prop where
  len : c.length = S.options.length
  ok : inB S.options c = true
theorem validB_opt {S : Src} (hv : validB S = true) {i n : Nat} (h : S.options[i]? = some n) : 1 ≤ n ∧ n ≤ 4 := by
  unfold validB at hv
  simp only [Bool.and_eq_true, List.all_eq_true] at hv
  have := hv.2 n (List.mem_of_getElem? h)
  simpa [optB] using this
theorem opt_some {S : Src} {i : Nat} (h : i < S.options.length) : ∃ n, S.options[i]? = some n := ⟨_, List.getElem?_eq_getElem h⟩
theorem Cfg.at {S : Src} {c : List Int} (h : Cfg S c) {i : Nat} {x : Int} {n : Nat} (hx : c[i]? = some x) (hn : S.options[i]? = some n) : 0 ≤ x ∧ x < (n : Int) := by
  have := (inB_iff.1 h.ok) i x hx
  rwa [hn] at this
theorem Cfg.small {S : Src} (hv : validB S = true) {c : List Int} (h : Cfg S c) : ∀ x ∈ c, 0 ≤ x ∧ x ≤ 3 := by
  intro x hx
  obtain ⟨i, hi, e⟩ := List.getElem_of_mem hx
  obtain ⟨n, hn⟩ := opt_some (S := S) (i := i) (by rw [← h.len]; exact hi)
  have h1 := h.at (i := i) (x := x) (by rw [List.getElem?_eq_getElem hi, e]) hn
  have h2 := validB_opt hv hn
  omega
theorem Cfg.zero {S : Src} (hv : validB S = true) : Cfg S (List.replicate S.options.length 0) := by
  refine ⟨by simp, inB_iff.2 fun i x hx => ?_⟩
  have hi := lt_of_some hx
  simp at hi
  obtain ⟨n, hn⟩ := opt_some hi
  have h2 := validB_opt hv hn
  rw [List.getElem?_replicate, if_pos hi] at hx
  injection hx with hx
  rw [hn, ← hx]
  simp
  omega
theorem codeN_zero (n : Nat) : codeN (List.replicate n (0 : Int)) = 0 := by
  induction n with
  | zero => rfl
  | succ n ih => rw [List.replicate_succ, codeN_cons, ih]; simp
theorem Cfg.code_lt {S : Src} (hv : validB S = true) {c : List Int} (h : Cfg S c) : codeN c < 4 ^ S.options.length := by
  rw [← h.len]; exact codeN_lt (h.small hv)
theorem Cfg.yes {S : Src} (hv : validB S = true) {c : List Int} (h : Cfg S c) (hp : anyB S.forbids c = false) : allUpto S (codeN c + 1) = allUpto S (codeN c) ++ [c] := by
  have e : digs (codeN c) S.options.length = c := by rw [← h.len]; exact digs_codeN (h.small hv)
  have := allUpto_yes (S := S) (k := codeN c) (by rw [e, permB_eq hv h.len h.ok, hp]; rfl)
  rwa [e] at this
theorem Cfg.no {S : Src} (hv : validB S = true) {c : List Int} (h : Cfg S c) (hp : anyB S.forbids c = true) : allUpto S (codeN c + 1) = allUpto S (codeN c) := by
  have e : digs (codeN c) S.options.length = c := by rw [← h.len]; exact digs_codeN (h.small hv)
  exact allUpto_no (by rw [e, permB_eq hv h.len h.ok, hp]; rfl)
/-- from r on all choices are the greatest -/
def TopFrom (S : Src) (c : List Int) (r : Nat) : Prop := ∀ (j : Nat) (y : Int) (n : Nat), r ≤ j → c[j]? = some y → S.options[j]? = some n → y + 1 = n
theorem TopFrom.maxs {S : Src} {c : List Int} (h : Cfg S c) {r : Nat} (ht : TopFrom S c r) : ∀ (j : Nat) (y : Int), (c.drop r)[j]? = some y → S.options[r + j]?.getD 0 ≤ (y + 1).toNat ∧ 0 ≤ y := by
  intro j y hy
  rw [List.getElem?_drop] at hy
  have hi := lt_of_some hy
  obtain ⟨n, hn⟩ := opt_some (S := S) (i := r + j) (by rw [← h.len]; exact hi)
  have h1 := ht _ _ _ (by omega) hy hn
  have h2 := h.at hy hn
  rw [hn]
  simp
  omega
theorem TopFrom.step {S : Src} {c : List Int} {r : Nat} {y : Int} {n : Nat} (ht : TopFrom S c (r + 1)) (hy : c[r]? = some y) (hn : S.options[r]? = some n) (h : y + 1 = n) : TopFrom S c r := by
  intro j y' n' hj hy' hn'
  by_cases hjr : j = r
  · subst hjr
    rw [hy] at hy'; injection hy' with hy'
    rw [hn] at hn'; injection hn' with hn'
    omega
  · exact ht j y' n' (by omega) hy' hn'
theorem last_ok {S : Src} (hv : validB S = true) {c : List Int} (h : Cfg S c) (ht : TopFrom S c 0) : allL S = allUpto S (codeN c + 1) := by
  rw [allL, if_pos hv]
  refine last_all (S := S) (maxs := c) h.len.symm (fun j y hy => ?_) (h.small hv)
  have := TopFrom.maxs h ht j y (by simpa using hy)
  simpa using this
theorem nextE {α : Type} {c : List α} {r : Nat} {x : α} (hx : c[r]? = some x) : c = c.take r ++ x :: c.drop (r + 1) := by
  have hlt := lt_of_some hx
  rw [List.getElem?_eq_getElem hlt] at hx
  injection hx with hx
  rw [← hx, ← List.drop_eq_getElem_cons hlt, List.take_append_drop]
theorem next_ok {S : Src} (hv : validB S = true) {c : List Int} (h : Cfg S c) {r : Nat} (ht : TopFrom S c (r + 1)) {x : Int} {n : Nat} (hx : c[r]? = some x) (hn : S.options[r]? = some n) (hne : x + 1 ≠ n) :
    Cfg S (c.take r ++ (x + 1) :: List.replicate (c.length - (r + 1)) 0) ∧ codeN c < codeN (c.take r ++ (x + 1) :: List.replicate (c.length - (r + 1)) 0) ∧
      allUpto S (codeN (c.take r ++ (x + 1) :: List.replicate (c.length - (r + 1)) 0)) = allUpto S (codeN c + 1) := by
  have hlt := lt_of_some hx
  have hxn := h.at hx hn
  have hsm := h.small hv
  have hdl : (c.drop (r + 1)).length = c.length - (r + 1) := by simp
  have htl : (c.take r).length = r := by simp; omega
  have hM : ∀ y ∈ c.drop (r + 1), 0 ≤ y ∧ y ≤ 3 := fun y hy => hsm y (List.mem_of_mem_drop hy)
  have key := next_all (S := S) (a := c.take r) (maxs := c.drop (r + 1)) (x := x) (by rw [htl, hdl, ← h.len]; omega) (fun j y hy => by rw [htl]; exact TopFrom.maxs h ht j y hy) hM hxn.1
  rw [hdl, ← nextE hx] at key
  refine ⟨⟨by simp [htl, ← h.len]; omega, inB_iff.2 fun i y hy => ?_⟩, ?_, key⟩
  · by_cases h1 : i < r
    · rw [List.getElem?_append_left (by omega), List.getElem?_take, if_pos h1] at hy
      exact (inB_iff.1 h.ok) i y hy
    · by_cases h2 : i = r
      · subst h2
        rw [List.getElem?_append_right (by omega), htl, Nat.sub_self] at hy
        simp at hy
        rw [hn, ← hy]
        simp; omega
      · rw [List.getElem?_append_right (by omega), htl, show i - r = (i - r - 1) + 1 by omega, List.getElem?_cons_succ] at hy
        have h3 := lt_of_some hy
        simp at h3
        rw [List.getElem?_replicate, if_pos h3] at hy
        injection hy with hy
        obtain ⟨m, hm⟩ := opt_some (S := S) (i := i) (by rw [← h.len]; omega)
        have := validB_opt hv hm
        rw [hm, ← hy]
        simp; omega
  · have e1 : c.take r ++ (x + 1) :: List.replicate (c.length - (r + 1)) (0 : Int) = (c.take r ++ [x + 1]) ++ List.replicate (c.length - (r + 1)) 0 := by simp
    have e2 : c = (c.take r ++ [x]) ++ c.drop (r + 1) := by have := nextE hx; simpa using this
    have hlt2 := codeN_lt hM
    rw [e1, codeN_append, codeN_zero, List.length_replicate, codeN_append]
    rw [hdl] at hlt2
    conv => lhs; rw [e2, codeN_append, hdl, codeN_append]
    have e3 : codeN [x + 1] = codeN [x] + 1 := by simp [codeN]; omega
    rw [e3, ← Nat.add_assoc, Nat.add_mul _ 1]
    simp only [List.length_cons, List.length_nil, Nat.one_mul]
    omega
theorem pow_le {S : Src} (hv : validB S = true) : 4 ^ S.options.length ≤ 4096 := pow4_le (Nat.le_refl _) (validB_le hv)
theorem allUpto_lt {S : Src} (hv : validB S = true) {c : List Int} (h : Cfg S c) : (allUpto S (codeN c)).length < 4096 := by
  have h1 := allUpto_len S (codeN c)
  have h2 := h.code_lt hv
  have h3 := pow_le hv
  omega
end Go.Proofs.Ytpbajggbinljiaa
