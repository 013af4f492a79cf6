/-
  Rel's law for a region whose last operations (from number n on) come one after the other behind all others: the head by Rel, the tail as it stands.
-/
import Derived.Test.YtpbajggbinljiaaRel
import Derived.Test.YtpbajggbinljiaaMid
namespace Go.Proofs.Ytpbajggbinljiaa
set_option linter.unusedVariables false
set_option linter.unusedSimpArgs false
set_option linter.unnecessarySimpa false
set_option linter.unusedSectionVars false
open Go.RowKit

section
variable {P : Program} {Le : World → World → Prop} {w0 : World}

def unlistedTo (n : Nat) (listed : Array Bool) : Nat := (listed.toList.take n).countP (fun b => !b)
theorem unlistedTo_set {n : Nat} {listed : Array Bool} {i : Nat} (hin : i < n) (h : listed.getD i true = false) : unlistedTo n (listed.setIfInBounds i true) + 1 = unlistedTo n listed := by
  have hi : i < listed.size := by
    rcases Nat.lt_or_ge i listed.size with h' | h'
    · exact h'
    · simp [Array.getD, show ¬ i < listed.size by omega] at h
  have hv : listed.toList[i]'(by simpa using hi) = false := by simpa [Array.getD, hi] using h
  unfold unlistedTo
  rw [Array.toList_setIfInBounds]
  have key : ∀ (l : List Bool) (n i : Nat) (h : i < l.length), i < n → l[i] = false → ((l.set i true).take n).countP (fun b => !b) + 1 = (l.take n).countP (fun b => !b) := by
    intro l
    induction l with
    | nil => intro n i h; simp at h
    | cons b l ih =>
      intro n i h hn hv
      match n, i with
      | n + 1, 0 => simp at hv; subst hv; simp
      | n + 1, i + 1 =>
        have := ih n i (by simpa using h) (by omega) (by simpa using hv)
        simp only [List.set_cons_succ, List.take_succ_cons, List.countP_cons]
        omega
  exact key _ _ _ _ hin hv
theorem all_of_unlistedTo {n : Nat} {listed : Array Bool} (h : unlistedTo n listed = 0) (i : Nat) (hi : i < n) : listed.getD i true = true := by
  rcases Nat.lt_or_ge i listed.size with h' | h'
  · unfold unlistedTo at h
    rw [List.countP_eq_zero] at h
    have := h listed[i] (by
      rw [List.mem_iff_getElem?]
      exact ⟨i, by rw [List.getElem?_take, if_pos hi]; simp [h']⟩)
    simpa [Array.getD, h'] using this
  · simp [Array.getD, show ¬ i < listed.size by omega]
def headDone (n m : Nat) : Array Bool := ((List.range m).map fun i => decide (i < n)).toArray
theorem eq_headDone {n m : Nat} {listed : Array Bool} (hs : listed.size = m) (h1 : ∀ i, i < n → listed.getD i true = true) (h2 : ∀ i, n ≤ i → i < m → listed.getD i true = false) : listed = headDone n m := by
  apply Array.ext
  · simp [headDone, hs]
  · intro i hi1 hi2
    have him : i < m := by omega
    simp only [headDone, List.getElem_toArray, List.getElem_map, List.getElem_range]
    by_cases h : i < n
    · have := h1 i h
      simp only [Array.getD, hi1, dite_true] at this
      rw [show listed[i] = true from this]; simp [h]
    · have := h2 i (by omega) him
      simp only [Array.getD, hi1, dite_true] at this
      rw [show listed[i] = false from this]; simp [h]

theorem wpAny_of_relTail {ops : List Oper} {Rs : List RSpec} {a0 : Act} {Q : Exit → Act → World → Prop} (n : Nat) (hn : n < ops.length) (hB : relB ops = true) (hlen : Rs.length = n) (hsink : Region.sinkB .any ops.toArray n = true) (hmid : midB .any ops.toArray n = true)
    (hseq : Region.seqB .any ops.toArray (ops.length - n) n (headDone n ops.length) = true) (htr : ∀ a b c, Le a b → Le b c → Le a c)
    (hmono : ∀ (j : Nat) (R : RSpec), Rs[j]? = some R → ∀ v w w', Le w w' → R v w → R v w') (h : wpLexR P Le w0 (fun a w => wpList P ops.toArray Q (ops.drop n) a w) (ops.take n) Rs [] a0) :
    ∀ (fuel : Nat) (listed : Array Bool) (a : Act) (w : World), unlistedTo n listed = fuel → HeadInv .any ops.toArray n listed → InvR ops Rs Le w0 a0 listed a w → wpAny P .any ops.toArray Q (fuel + (ops.length - n)) listed a w := by
  have htl : (ops.take n).length = n := by simp; omega
  intro fuel
  induction fuel with
  | zero =>
    intro listed a w hu hH hI
    have hall := fun i hi => all_of_unlistedTo hu i hi
    have hld : listed = headDone n ops.length := eq_headDone hI.lsize hall (fun i h1 h2 => hH.tail i h1 (by simpa using h2))
    have e1 : lexAct (ops.take n) (vals (ops.take n) a) a0 = a := by
      have e2 : (lexAct (ops.take n) (vals (ops.take n) a) a0).tmps = a.tmps := by
        apply Array.ext_getElem?
        intro t
        rw [lexAct_get (ops.take n) a0 hI.size.symm t]
        split
        · rfl
        · rename_i hno
          refine (hI.old t fun j o ho hlj e => hno ⟨o, ?_, e⟩).symm
          have hjn : j < n := by
            rcases Nat.lt_or_ge j n with h' | h'
            · exact h'
            · have := hH.tail j h' (by have := lt_of_some ho; simpa using this)
              rw [this] at hlj; cases hlj
          exact List.mem_of_getElem? (i := j) (by rw [List.getElem?_take, if_pos hjn]; exact ho)
      have e3 : (lexAct (ops.take n) (vals (ops.take n) a) a0).defers = a.defers := (lexAct_defers _ _ _).trans hI.defers.symm
      cases hx : lexAct (ops.take n) (vals (ops.take n) a) a0 with
      | mk t d =>
        rw [hx] at e2 e3
        cases a
        simp only at e2 e3
        rw [e2, e3]
    have hq := wpLexR_end (by rw [htl, hlen]) h (vals (ops.take n) a) (by simp [vals]) w hI.le (facts_lex (ops.take n) Rs [] trivial fun i o R ho hR => by
      have hin : i < n := by have := lt_of_some hR; omega
      rw [List.getElem?_take, if_pos hin] at ho
      exact hI.new i o R ho hR (hall i hin))
    rw [e1] at hq
    have hd : (ops.drop n).length = ops.length - n := by simp
    have := wpAny_of_seq (md := .any) (Q' := Q) (ops := ops.toArray) (ops.drop n) n listed a w (fun j => by simp [List.getElem?_drop]) (by rw [hd, hld]; exact hseq) hq
    rw [hd] at this
    rw [Nat.zero_add]
    exact this
  | succ fuel ih =>
    intro listed a w hu hH hI
    have hex : ∃ i, i < n ∧ listed.getD i true = false := by
      apply Classical.byContradiction
      intro hno
      have : unlistedTo n listed = 0 := by
        unfold unlistedTo
        rw [List.countP_eq_zero]
        intro b hb
        obtain ⟨i, hi⟩ := List.mem_iff_getElem?.1 hb
        rw [List.getElem?_take] at hi
        split at hi
        · rename_i hin
          cases hl : listed.getD i true with
          | false => exact absurd ⟨i, hin, hl⟩ hno
          | true =>
            have his : i < listed.size := by have := lt_of_some hi; simpa using this
            simp only [Array.getD, his, dite_true] at hl
            rw [Array.getElem?_toList, Array.getElem?_eq_getElem his] at hi
            injection hi with hi
            rw [← hi, show listed[i] = true from hl]; simp
        · cases hi
      omega
    obtain ⟨i0, hi0, hun0⟩ := hex
    rw [show fuel + 1 + (ops.length - n) = (fuel + (ops.length - n)) + 1 by omega]
    refine ⟨fun hr => ?_, fun i hi => ?_⟩
    · have := all_of_ready hB hI.lsize hr i0
      rw [this] at hun0; cases hun0
    obtain ⟨hun, o, ho', hafter⟩ := mem_ready.1 hi
    have hin : i < n := by
      rcases Nat.lt_or_ge i n with h' | h'
      · exact h'
      · exact absurd hi (mid_waits hsink hmid (by simpa using hn) hH _ i0 rfl hi0 hun0 i h')
    have ho : ops[i]? = some o := by simpa using ho'
    obtain ⟨hg, hsel, hdep, hlow⟩ := relOp_spec (relB_at hB ho)
    obtain ⟨R, hR⟩ : ∃ R, Rs[i]? = some R := ⟨_, List.getElem?_eq_getElem (by omega)⟩
    have hot : (ops.take n)[i]? = some o := by rw [List.getElem?_take, if_pos hin]; exact ho
    have htk : (ops.take n).take i = ops.take i := by rw [List.take_take]; congr 1; omega
    unfold wpOp
    simp only [ho']
    rw [if_pos (by simp [Region.wanted, hg])]
    refine .inl ?_
    have hob := wpLexR_op i h o R hot hR (vals (ops.take i) a) (by simp [vals]; omega) w hI.le (by
      rw [htk]
      exact needs_lex (b := a) _ _ _ trivial fun j p R' t hj hR' ht hm => by
        have hji : j < i := by have := lt_of_some hj; simp at this; omega
        rw [List.getElem?_take, if_pos hji] at hj hR'
        obtain ⟨_, e, he, hb, hon⟩ := (hdep j p t hj (by omega) ht).2 hm
        have h1 := hafter e he hb
        rw [hon] at h1
        refine hI.new j p R' hj hR' ?_
        rcases Nat.lt_or_ge j listed.size with h' | h'
        · simpa [Array.getD, h'] using h1
        · simp [Array.getD, show ¬ j < listed.size by omega])
    rw [htk] at hob
    refine wp_transfer hg (execOp_congr o hsel fun x hx => ?_) ((lexAct_size _ _ _).trans hI.size.symm) hob fun v w' hle hRv => ?_
    · cases x with
      | tmp t =>
        have hm : t ∈ tempsOf o := List.mem_filterMap.2 ⟨.tmp t, by simpa using hx, rfl⟩
        have e1 : (lexAct (ops.take i) (vals (ops.take i) a) a0).tmps[t]? = a.tmps[t]? := by
          rw [lexAct_get _ a0 hI.size.symm t]
          split
          · rfl
          · rename_i hno
            refine (hI.old t fun j p hj hlj e => ?_).symm
            by_cases hji : j = i
            · subst hji
              rw [hun] at hlj; cases hlj
            · have h2 := ((hdep j p t hj hji e).2 hm).1
              exact hno ⟨p, List.mem_of_getElem? (i := j) (by rw [List.getElem?_take, if_pos h2]; exact hj), e⟩
        simp only [Act.eval, Array.getD_eq_getD_getElem?, e1]
      | _ => rfl
    · refine ih _ _ _ (by have := unlistedTo_set hin hun; omega) (hH.set hi hin) ⟨htr _ _ _ hI.le hle, put_size.trans hI.size, put_defers.trans hI.defers, by simp [hI.lsize], fun t ht => ?_, fun j p R' hj hR' hlj => ?_⟩
      · rw [getD_put, if_neg]
        · refine hI.old t fun j p hj hlj => ht j p hj ?_
          by_cases hji : j = i
          · subst hji; rw [hun] at hlj; cases hlj
          · simp only [Array.getD_eq_getD_getElem?] at hlj ⊢
            rwa [Array.getElem?_setIfInBounds_ne (Ne.symm hji)]
        · rintro ⟨e, _⟩
          refine ht i o ho ?_ e
          simp only [Array.getD_eq_getD_getElem?]
          rw [Array.getElem?_setIfInBounds_self]
          split <;> rfl
      · by_cases hji : j = i
        · subst hji
          rw [ho] at hj; rw [hR] at hR'
          injection hj with hj; injection hR' with hR'
          subst hj hR'
          exact hRv
        · have hlj' : listed.getD j true = true := by
            simp only [Array.getD_eq_getD_getElem?] at hlj ⊢
            rwa [Array.getElem?_setIfInBounds_ne (Ne.symm hji)] at hlj
          have hv : valOf p (a.put o.dst v) = valOf p a := by
            unfold valOf
            cases hp : p.dst with
            | none => rfl
            | some t =>
              have := (hdep j p t hj hji hp).1
              simp only [Array.getD_eq_getD_getElem?]
              rw [getD_put, if_neg (fun h => this h.1)]
          rw [hv]
          exact hmono j R' hR' _ _ _ hle (hI.new j p R' hj hR' hlj')

def relTailB (ops : List Oper) (n : Nat) : Bool :=
  relB ops && decide (n < ops.length) && Region.sinkB .any ops.toArray n && midB .any ops.toArray n && Region.seqB .any ops.toArray (ops.length - n) n (headDone n ops.length)
/-- **The law.** -/
theorem wp_region_relTail {id : Nat} {ops : List Oper} {Q : Exit → Act → World → Prop} {a : Act} {w : World} (n : Nat) (Le : World → World → Prop) (Rs : List RSpec) (hm : P.follows .mixedOrders = true) (hB : relTailB ops n = true) (hlen : Rs.length = n)
    (hrf : ∀ a, Le a a) (htr : ∀ a b c, Le a b → Le b c → Le a c) (hmono : ∀ (j : Nat) (R : RSpec), Rs[j]? = some R → ∀ v w w', Le w w' → R v w → R v w')
    (h : wpLexR P Le { w with drawn := w.drawn + 1 } (fun a w => wpList P ops.toArray Q (ops.drop n) a w) (ops.take n) Rs [] a) : (Code.region id ops.toArray true).wp P Q a w := by
  simp only [relTailB, Bool.and_eq_true, decide_eq_true_eq] at hB
  obtain ⟨⟨⟨⟨hrel, hn⟩, hsink⟩, hmid⟩, hseq⟩ := hB
  refine wp_region_any hm ?_
  have hsz : ops.toArray.size = n + (ops.length - n) := by simp; omega
  rw [hsz]
  refine wpAny_of_relTail n hn hrel hlen hsink hmid hseq htr hmono h _ _ a _ ?_ ?_ ⟨hrf _, rfl, rfl, by simp; omega, fun t _ => rfl, fun j o R hj hR hlj => ?_⟩
  · unfold unlistedTo
    simp [List.take_replicate, List.countP_replicate]
  · exact ⟨by simp; omega, fun j oj _ hl => (by rw [getD_replicate_false] at hl; cases hl), fun t _ ht => getD_in (by simp at ht ⊢; omega) (getD_replicate_false _ _)⟩
  · have hlt := lt_of_some hj
    simp [Array.getD, show j < n + (ops.length - n) by omega] at hlj
end
end Go.Proofs.Ytpbajggbinljiaa
