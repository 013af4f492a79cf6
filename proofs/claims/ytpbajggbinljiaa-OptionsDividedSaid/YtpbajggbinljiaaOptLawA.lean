/-
  Plain laws of options: a configuration is permitted if and only if it is in the list of all; its place tells its code; the two ways back from a code agree.
-/
import Derived.Test.YtpbajggbinljiaaOptEnum
import Derived.Test.YtpbajggbinljiaaOptConfig
namespace Go.Proofs.Ytpbajggbinljiaa
set_option linter.unusedVariables false
set_option linter.unusedSimpArgs false
set_option linter.unnecessarySimpa false
set_option linter.unusedSectionVars false

theorem permB_parts {S : Src} {c : List Int} (h : permB S c = true) : validB S = true ∧ c.length = S.options.length ∧ inB S.options c = true ∧ anyB S.forbids c = false := by
  unfold permB at h
  simp only [Bool.and_eq_true, decide_eq_true_eq, Bool.not_eq_true'] at h
  exact ⟨h.1.1.1, h.1.1.2, h.1.2, h.2⟩
theorem perm_digs {S : Src} {c : List Int} (h : permB S c = true) : c = digs (codeN c) S.options.length ∧ codeN c < 4 ^ S.options.length := by
  have hd := (permB_dig h).2
  have hl := (permB_parts h).2.1
  exact ⟨by rw [← hl]; exact (digs_codeN hd).symm, by rw [← hl]; exact codeN_lt hd⟩
theorem mem_allUpto {S : Src} {k : Nat} {c : List Int} : c ∈ allUpto S k ↔ permB S c = true ∧ ∃ n, n < k ∧ c = digs n S.options.length := by
  unfold allUpto
  rw [List.mem_filter, List.mem_map]
  constructor
  · rintro ⟨⟨n, hn, rfl⟩, h⟩; exact ⟨h, n, by simpa using hn, rfl⟩
  · rintro ⟨h, n, hn, rfl⟩; exact ⟨⟨n, by simpa using hn, rfl⟩, h⟩
theorem mem_allL {S : Src} {c : List Int} : c ∈ allL S ↔ permB S c = true := by
  constructor
  · exact allL_dig
  · intro h
    rw [allL, if_pos (permB_parts h).1, mem_allUpto]
    exact ⟨h, codeN c, (perm_digs h).2, (perm_digs h).1⟩
theorem codeZ_digs {n len : Nat} : codeZ (digs n len) = ((n % 4 ^ len : Nat) : Int) := by
  rw [codeZ_codeN (digs_range n len), codeN_digs]
theorem perm_codeZ {S : Src} {c : List Int} (h : permB S c = true) : codeZ c = (codeN c : Int) := codeZ_codeN (permB_dig h).2
/-- configurations with one code are one -/
theorem perm_inj {S : Src} {c d : List Int} (hc : permB S c = true) (hd : permB S d = true) (h : codeZ c = codeZ d) : c = d := by
  rw [perm_codeZ hc, perm_codeZ hd] at h
  have h' : codeN c = codeN d := by omega
  rw [(perm_digs hc).1, (perm_digs hd).1, h']
theorem cfgB_iff {S : Src} {n : Int} : cfgB S n = true ↔ ∃ c, permB S c = true ∧ codeZ c = n := by
  unfold cfgB
  simp only [Bool.and_eq_true, decide_eq_true_eq]
  constructor
  · rintro ⟨⟨⟨hv, h0⟩, hn⟩, hp⟩
    refine ⟨_, hp, ?_⟩
    rw [codeZ_digs]
    have := (Nat.div_eq_zero_iff.1 hn)
    have hlt : n.toNat < 4 ^ S.options.length := by
      rcases this with h | h
      · have : 0 < 4 ^ S.options.length := Nat.pow_pos (by omega)
        omega
      · exact h
    rw [Nat.mod_eq_of_lt hlt]; omega
  · rintro ⟨c, hc, rfl⟩
    have e := perm_codeZ hc
    obtain ⟨e1, e2⟩ := perm_digs hc
    have e3 : (codeZ c).toNat = codeN c := by omega
    rw [e3, ← e1]
    exact ⟨⟨⟨(permB_parts hc).1, by omega⟩, Nat.div_eq_of_lt e2⟩, hc⟩
theorem cfgL_of {S : Src} {c : List Int} (hc : permB S c = true) : cfgL S (codeZ c) = c := by
  have e := perm_codeZ hc
  have e3 : (codeZ c).toNat = codeN c := by omega
  rw [cfgL, if_pos (cfgB_iff.2 ⟨c, hc, rfl⟩), e3, ← (perm_digs hc).1]
theorem cfgE_of {S : Src} {c : List Int} (hc : permB S c = true) : cfgE S (codeZ c) = 0 := by
  rw [cfgE, if_pos (cfgB_iff.2 ⟨c, hc, rfl⟩)]
theorem refCfg_some {S : Src} {c : List Int} (hc : permB S c = true) : refCfg S (codeZ c) = some c := by
  unfold refCfg
  cases h : (allL S).find? fun x => decide (codeZ x = codeZ c) with
  | none => rw [List.find?_eq_none] at h; exact absurd (by simp) (h c (mem_allL.2 hc))
  | some d =>
    have h1 := List.mem_of_find?_eq_some h
    have h2 := List.find?_some h
    rw [perm_inj (mem_allL.1 h1) hc (by simpa using h2)]
theorem refCfg_none {S : Src} {n : Int} (h : cfgB S n = false) : refCfg S n = none := by
  unfold refCfg
  rw [List.find?_eq_none]
  intro x hx
  simp only [decide_eq_true_eq]
  rintro rfl
  rw [cfgB_iff.2 ⟨x, mem_allL.1 hx, rfl⟩] at h
  exact Bool.noConfusion h
theorem refCfg_agrees (S : Src) (n : Int) : refCfgL S n = cfgL S n ∧ refCfgE S n = cfgE S n := by
  cases h : cfgB S n with
  | false => rw [refCfgL, refCfgE, refCfg_none h, cfgL, cfgE, h]; exact ⟨rfl, rfl⟩
  | true =>
    obtain ⟨c, hc, rfl⟩ := cfgB_iff.1 h
    rw [refCfgL, refCfgE, refCfg_some hc, cfgL_of hc, cfgE_of hc]; exact ⟨rfl, rfl⟩

/-! ### The codes rise -/
theorem allUpto_rise {S : Src} : ∀ {k : Nat}, k ≤ 4 ^ S.options.length → ((allUpto S k).map codeN).Pairwise (· < ·) ∧ ∀ x ∈ allUpto S k, codeN x < k := by
  intro k
  induction k with
  | zero => intro _; rw [allUpto_zero]; exact ⟨List.Pairwise.nil, fun x hx => by simp at hx⟩
  | succ k ih =>
    intro hk
    obtain ⟨h1, h2⟩ := ih (by omega)
    have e : codeN (digs k S.options.length) = k := by rw [codeN_digs, Nat.mod_eq_of_lt (by omega)]
    cases hp : permB S (digs k S.options.length) with
    | false => rw [allUpto_no hp]; exact ⟨h1, fun x hx => by have := h2 x hx; omega⟩
    | true =>
      rw [allUpto_yes hp, List.map_append, List.pairwise_append]
      refine ⟨⟨h1, by simp, ?_⟩, ?_⟩
      · intro a ha b hb
        obtain ⟨x, hx, rfl⟩ := List.mem_map.1 ha
        simp only [List.map_cons, List.map_nil, List.mem_singleton] at hb
        rw [hb, e]; exact h2 x hx
      · intro x hx
        rcases List.mem_append.1 hx with hx | hx
        · have := h2 x hx; omega
        · rw [List.mem_singleton.1 hx, e]; omega
theorem allL_rise (S : Src) : ((allL S).map codeN).Pairwise (· < ·) := by
  unfold allL
  split
  · exact (allUpto_rise (Nat.le_refl _)).1
  · exact List.Pairwise.nil
theorem allL_before {S : Src} {i j : Nat} {x y : List Int} (hi : (allL S)[i]? = some x) (hj : (allL S)[j]? = some y) (h : i < j) : codeZ x < codeZ y := by
  have hx := mem_allL.1 (List.mem_of_getElem? hi)
  have hy := mem_allL.1 (List.mem_of_getElem? hj)
  rw [perm_codeZ hx, perm_codeZ hy]
  have := List.pairwise_iff_getElem.1 (allL_rise S) i j (by have := lt_of_some hi; simpa using this) (by have := lt_of_some hj; simpa using this) h
  rw [List.getElem_map, List.getElem_map] at this
  rw [List.getElem?_eq_getElem (lt_of_some hi)] at hi
  rw [List.getElem?_eq_getElem (lt_of_some hj)] at hj
  injection hi with hi; injection hj with hj
  rw [hi, hj] at this
  omega
end Go.Proofs.Ytpbajggbinljiaa
