/-
  A region that draws its order and whose operations may make new memory: what each operation yields is told by a predicate of the value and the world, which later worlds keep; each operation is walked once, from whatever world, knowing of the others only what it reads; what stands behind the region is asked in every world and at all values of which the predicates hold.
-/
import Derived.Test.YtpbajggbinljiaaMem
import Derived.Orders
import Derived.Sort.Grow
namespace Go.Proofs.Ytpbajggbinljiaa
set_option linter.unusedVariables false
set_option linter.unusedSimpArgs false
set_option linter.unnecessarySimpa false
set_option linter.unusedSectionVars false
open Go.RowKit

abbrev RSpec := Value → World → Prop
def valOf (o : Oper) (a : Act) : Value := match o.dst with | some t => a.tmps.getD t undef | none => undef
def tempsOf (o : Oper) : List Tmp := o.op.operands.toList.filterMap fun | .tmp t => some t | _ => none
abbrev Fact := Option Tmp × Value × RSpec
/-- what is known of the slots ts -/
def needs (w : World) (ts : List Tmp) : List Fact → Prop
  | [] => True
  | (some t, v, R) :: F => (if ts.contains t = true then R v w else True) ∧ needs w ts F
  | (none, _, _) :: F => needs w ts F
def factsAll (w : World) : List Fact → Prop
  | [] => True
  | (_, v, R) :: F => R v w ∧ factsAll w F
def PostR (Le : World → World → Prop) (w : World) (R : RSpec) (o : Oper) (a : Act) : Exit → Act → World → Prop :=
  fun e a' w' => e = .normal ∧ a'.defers = a.defers ∧ Le w w' ∧ R (valOf o a') w'
/-- each operation once, in the text's order; 'F': what is known of the values so far -/
def wpLexR (P : Program) (Le : World → World → Prop) (w0 : World) (Q : Act → World → Prop) : List Oper → List RSpec → List Fact → Act → Prop
  | o :: os, R :: Rs, F, a => (∀ w, Le w0 w → needs w (tempsOf o) F → wpList P #[] (PostR Le w R o a) [o] a w) ∧ ∀ v, wpLexR P Le w0 Q os Rs ((o.dst, v, R) :: F) (a.put o.dst v)
  | [], _, F, a => ∀ w, Le w0 w → factsAll w F → Q a w
  | _ :: _, [], _, _ => False

/-- What the law asks of a region's shape: no guard, no select; each slot is written once; what an operation reads of another's it waits for, and that one stands ahead of it; an operation waits only for what stands ahead. -/
def relOp (ops : List Oper) (i : Nat) (o : Oper) : Bool :=
  o.guard.isNone && (match o.op with | .select .. => false | _ => true) &&
  ops.zipIdx.all (fun (p, j) =>
    j == i || (match p.dst with
      | none => true
      | some t => o.dst != some t && (!(tempsOf o).contains t || (decide (j < i) && o.after.any fun e => Region.binds .any e && e.on == j)))) &&
  o.after.all (fun e => !Region.binds .any e || decide (e.on < i))
def relB (ops : List Oper) : Bool := ops.zipIdx.all fun (o, i) => relOp ops i o

section
variable {P : Program} {Le : World → World → Prop} {w0 : World}

theorem relB_at {ops : List Oper} (h : relB ops = true) {i : Nat} {o : Oper} (hi : ops[i]? = some o) : relOp ops i o = true := by
  unfold relB at h
  rw [List.all_eq_true] at h
  exact h (o, i) (by rw [List.mem_zipIdx_iff_getElem?]; simpa using hi)
theorem relOp_spec {ops : List Oper} {i : Nat} {o : Oper} (h : relOp ops i o = true) :
    o.guard = none ∧ (∀ cs b, o.op ≠ .select cs b) ∧ (∀ j p t, ops[j]? = some p → j ≠ i → p.dst = some t → o.dst ≠ some t ∧ (t ∈ tempsOf o → j < i ∧ ∃ e ∈ o.after, Region.binds .any e = true ∧ e.on = j)) ∧
      (∀ e ∈ o.after, Region.binds .any e = true → e.on < i) := by
  unfold relOp at h
  simp only [Bool.and_eq_true] at h
  obtain ⟨⟨⟨h1, h2⟩, h3⟩, h4⟩ := h
  refine ⟨by simpa using h1, fun cs b e => (by rw [e] at h2; cases h2), fun j p t hj hji ht => ?_, fun e he hb => ?_⟩
  · rw [List.all_eq_true] at h3
    have := h3 (p, j) (by rw [List.mem_zipIdx_iff_getElem?]; simpa using hj)
    simp only [ht, Bool.or_eq_true, beq_iff_eq, hji, false_or, Bool.and_eq_true, bne_iff_ne, ne_eq, Bool.not_eq_true', decide_eq_true_eq, Array.any_eq_true] at this
    refine ⟨this.1, fun hm => ?_⟩
    rcases this.2 with h5 | ⟨h5, k, hk, h6, h7⟩
    · simp only [List.contains_eq_mem, decide_eq_false_iff_not] at h5
      exact absurd hm h5
    · exact ⟨h5, _, Array.getElem_mem hk, h6, h7⟩
  · rw [Array.all_eq_true_iff_forall_mem] at h4
    have := h4 e he
    rw [hb] at this
    simpa using this

/-! ### the lexical walk at given values -/
def lexAct : List Oper → List Value → Act → Act
  | o :: os, v :: vs, a => lexAct os vs (a.put o.dst v)
  | _, _, a => a
def lexF : List Oper → List RSpec → List Value → List Fact → List Fact
  | o :: os, R :: Rs, v :: vs, F => lexF os Rs vs ((o.dst, v, R) :: F)
  | _, _, _, F => F
theorem wpLexR_end {Q : Act → World → Prop} : ∀ {os : List Oper} {Rs : List RSpec} {F : List Fact} {a : Act}, os.length = Rs.length → wpLexR P Le w0 Q os Rs F a → ∀ vs : List Value, vs.length = os.length →
    ∀ w, Le w0 w → factsAll w (lexF os Rs vs F) → Q (lexAct os vs a) w
  | [], [], F, a, _, h, [], _ => h
  | o :: os, R :: Rs, F, a, hl, h, v :: vs, hv => wpLexR_end (by simpa using hl) (h.2 v) vs (by simpa using hv)
theorem wpLexR_op {Q : Act → World → Prop} (i : Nat) : ∀ {os : List Oper} {Rs : List RSpec} {F : List Fact} {a : Act}, wpLexR P Le w0 Q os Rs F a → ∀ (o : Oper) (R : RSpec), os[i]? = some o → Rs[i]? = some R → ∀ vs : List Value, vs.length = i →
    ∀ w, Le w0 w → needs w (tempsOf o) (lexF (os.take i) (Rs.take i) vs F) → wpList P #[] (PostR Le w R o (lexAct (os.take i) vs a)) [o] (lexAct (os.take i) vs a) w := by
  induction i with
  | zero =>
    intro os Rs F a h o R ho hR vs hv w
    cases os with
    | nil => cases ho
    | cons o' os =>
      cases Rs with
      | nil => cases hR
      | cons R' Rs =>
        simp only [List.getElem?_cons_zero, Option.some.injEq] at ho hR
        subst ho hR
        cases vs with
        | nil => exact h.1 w
        | cons v vs => cases hv
  | succ i ih =>
    intro os Rs F a h o R ho hR vs hv w
    cases os with
    | nil => cases ho
    | cons o' os =>
      cases Rs with
      | nil => cases hR
      | cons R' Rs =>
        cases vs with
        | nil => cases hv
        | cons v vs =>
          have := ih (h.2 v) o R (by simpa using ho) (by simpa using hR) vs (by simpa using hv) w
          rw [List.take_succ_cons, List.take_succ_cons]
          exact this
def vals (os : List Oper) (a : Act) : List Value := os.map fun o => valOf o a
theorem getD_put {a : Act} {d : Option Tmp} {v : Value} {t : Tmp} : (a.put d v).tmps[t]? = if d = some t ∧ t < a.tmps.size then some v else a.tmps[t]? := by
  cases d with
  | none => simp [Act.put]
  | some d =>
    simp only [Act.put, Array.getElem?_setIfInBounds, Option.some.injEq]
    by_cases h : d = t
    · subst h
      by_cases h2 : d < a.tmps.size
      · simp [h2]
      · simp [h2]
    · simp [h]
theorem put_size {a : Act} {d : Option Tmp} {v : Value} : (a.put d v).tmps.size = a.tmps.size := by cases d <;> simp [Act.put]
theorem put_defers {a : Act} {d : Option Tmp} {v : Value} : (a.put d v).defers = a.defers := by cases d <;> rfl
theorem lexAct_size : ∀ (os : List Oper) (vs : List Value) (a : Act), (lexAct os vs a).tmps.size = a.tmps.size
  | o :: os, v :: vs, a => (lexAct_size os vs _).trans put_size
  | [], _, a => rfl
  | _ :: _, [], a => rfl
theorem lexAct_defers : ∀ (os : List Oper) (vs : List Value) (a : Act), (lexAct os vs a).defers = a.defers
  | o :: os, v :: vs, a => (lexAct_defers os vs _).trans put_defers
  | [], _, a => rfl
  | _ :: _, [], a => rfl
theorem valOf_some {a : Act} {o : Oper} {t : Tmp} (h : o.dst = some t) (ht : t < a.tmps.size) : a.tmps[t]? = some (valOf o a) := by
  simp [valOf, h, Array.getElem?_eq_getElem ht]
/-- the slots of the lexical walk at the values of b -/
theorem lexAct_get {b : Act} : ∀ (os : List Oper) (a : Act), a.tmps.size = b.tmps.size → ∀ t, (lexAct os (vals os b) a).tmps[t]? = if ∃ o ∈ os, o.dst = some t then b.tmps[t]? else a.tmps[t]?
  | [], a, _, t => by simp [lexAct, vals]
  | o :: os, a, hs, t => by
    have ih := lexAct_get os (a.put o.dst (valOf o b)) (put_size.trans hs) t
    show (lexAct os (vals os b) (a.put o.dst (valOf o b))).tmps[t]? = _
    rw [ih]
    by_cases h1 : ∃ o ∈ os, o.dst = some t
    · rw [if_pos h1, if_pos (by obtain ⟨p, hp, e⟩ := h1; exact ⟨p, by simp [hp], e⟩)]
    · rw [if_neg h1, getD_put]
      by_cases h2 : o.dst = some t
      · rw [if_pos (show ∃ p ∈ o :: os, p.dst = some t from ⟨o, by simp, h2⟩)]
        by_cases h3 : t < a.tmps.size
        · rw [if_pos ⟨h2, h3⟩, valOf_some h2 (hs ▸ h3)]
        · rw [if_neg (fun h => h3 h.2), Array.getElem?_eq_none (Nat.le_of_not_lt h3), Array.getElem?_eq_none (Nat.le_of_not_lt (hs ▸ h3))]
      · rw [if_neg (fun h => h2 h.1), if_neg]
        rintro ⟨p, hp, e⟩
        rcases List.mem_cons.1 hp with rfl | hp
        · exact h2 e
        · exact h1 ⟨p, hp, e⟩
theorem needs_lex {w : World} {ts : List Tmp} {b : Act} : ∀ (os : List Oper) (Rs : List RSpec) (F : List Fact), needs w ts F → (∀ (i : Nat) (o : Oper) (R : RSpec) (t : Tmp), os[i]? = some o → Rs[i]? = some R → o.dst = some t → t ∈ ts → R (valOf o b) w) →
    needs w ts (lexF os Rs (vals os b) F)
  | [], _, F, h, _ => by cases ‹List RSpec› <;> exact h
  | _ :: _, [], F, h, _ => by exact h
  | o :: os, R :: Rs, F, h, hd => by
    refine needs_lex os Rs _ ?_ (fun i o' R' t h1 h2 h3 h4 => hd (i + 1) o' R' t (by simpa using h1) (by simpa using h2) h3 h4)
    cases ho : o.dst with
    | none => exact h
    | some t =>
      refine ⟨?_, h⟩
      split
      · rename_i hc
        exact hd 0 o R t rfl rfl ho (by simpa using hc)
      · trivial
theorem facts_lex {w : World} {b : Act} : ∀ (os : List Oper) (Rs : List RSpec) (F : List Fact), factsAll w F → (∀ (i : Nat) (o : Oper) (R : RSpec), os[i]? = some o → Rs[i]? = some R → R (valOf o b) w) → factsAll w (lexF os Rs (vals os b) F)
  | [], _, F, h, _ => by cases ‹List RSpec› <;> exact h
  | _ :: _, [], F, h, _ => by exact h
  | o :: os, R :: Rs, F, h, hd => facts_lex os Rs _ ⟨hd 0 o R rfl rfl, h⟩ (fun i o' R' h1 h2 => hd (i + 1) o' R' (by simpa using h1) (by simpa using h2))

/-! ### one operation, in another frame that agrees in what it reads -/
theorem valOf_put {a b : Act} (o : Oper) (v : Value) (h : a.tmps.size = b.tmps.size) : valOf o (a.put o.dst v) = valOf o (b.put o.dst v) := by
  unfold valOf
  cases ho : o.dst with
  | none => rfl
  | some t =>
    simp only [Array.getD_eq_getD_getElem?]
    rw [getD_put, getD_put, h]
    by_cases h2 : t < b.tmps.size
    · simp [h2]
    · rw [if_neg (fun h => h2 h.2), if_neg (fun h => h2 h.2), Array.getElem?_eq_none (Nat.le_of_not_lt (h ▸ h2)), Array.getElem?_eq_none (Nat.le_of_not_lt h2)]
theorem wp_transfer {o : Oper} {a1 a : Act} {w : World} {R : RSpec} {K : Act → World → Prop} {Q : Exit → Act → World → Prop} (hg : o.guard = none) (he : execOp a1.eval o = execOp a.eval o) (hsz : a1.tmps.size = a.tmps.size)
    (h : wpList P #[] (PostR Le w R o a1) [o] a1 w) (hK : ∀ v w', Le w w' → R (valOf o (a.put o.dst v)) w' → K (a.put o.dst v) w') : o.wp P a w K Q := by
  have hlet : ¬ LetsOut (PostR Le w R o a1) := by rintro ⟨_, _, h, _⟩; cases h
  have h1 : o.wp P a1 w (fun a w' => PostR Le w R o a1 .normal a w') (PostR Le w R o a1) := by
    unfold wpList at h
    rw [if_pos (by simp [Region.wanted, hg])] at h
    rcases h with h | ⟨_, h⟩
    · exact h
    · exact absurd h hlet
  unfold Oper.wp at *
  rw [he] at h1
  generalize (execOp a.eval o).run P w = r at *
  cases r with
  | ok n w' =>
    cases n <;> simp only [Oper.upon] at h1 ⊢
    case value v => exact hK v w' h1.2.2.1 (valOf_put o v hsz ▸ h1.2.2.2)
    case skip => exact hK _ w' h1.2.2.1 (valOf_put o _ hsz ▸ h1.2.2.2)
    case defer d =>
      have := h1.2.1
      rw [put_defers] at this
      exact absurd (congrArg List.length this) (by simp)
    case enter f args =>
      refine Calls.mono h1 fun e w'' hp => ?_
      cases e with
      | returned v => exact hK v w'' hp.2.2.1 (valOf_put o v hsz ▸ hp.2.2.2)
      | panicked c => exact absurd hp.1 (by simp)
      | outgrown => exact absurd hp hlet
    case row row args => exact Rows.mono h1 fun v w'' hp => hK v w'' hp.2.2.1 (valOf_put o v hsz ▸ hp.2.2.2)
  | halt x w' =>
    cases x <;> simp only [Oper.upon] at h1 ⊢
    exact absurd h1.1 (by simp)

/-! ### every order -/
structure InvR (ops : List Oper) (Rs : List RSpec) (Le : World → World → Prop) (w0 : World) (a0 : Act) (listed : Array Bool) (a : Act) (w : World) : Prop where
  le : Le w0 w
  size : a.tmps.size = a0.tmps.size
  defers : a.defers = a0.defers
  lsize : listed.size = ops.length
  old : ∀ t, (∀ j o, ops[j]? = some o → listed.getD j true = true → o.dst ≠ some t) → a.tmps[t]? = a0.tmps[t]?
  new : ∀ j o R, ops[j]? = some o → Rs[j]? = some R → listed.getD j true = true → R (valOf o a) w
def unlisted (listed : Array Bool) : Nat := listed.toList.countP (fun b => !b)
theorem unlisted_set {listed : Array Bool} {i : Nat} (h : listed.getD i true = false) : unlisted (listed.setIfInBounds i true) + 1 = unlisted listed := by
  have hi : i < listed.size := by
    rcases Nat.lt_or_ge i listed.size with h' | h'
    · exact h'
    · simp [Array.getD, show ¬ i < listed.size by omega] at h
  have hv : listed.toList[i]'(by simpa using hi) = false := by simpa [Array.getD, hi] using h
  unfold unlisted
  rw [Array.toList_setIfInBounds]
  have key : ∀ (l : List Bool) (i : Nat) (h : i < l.length), l[i] = false → (l.set i true).countP (fun b => !b) + 1 = l.countP (fun b => !b) := by
    intro l
    induction l with
    | nil => intro i h; simp at h
    | cons b l ih =>
      intro i h hv
      match i with
      | 0 => simp at hv; subst hv; simp
      | i + 1 =>
        have := ih i (by simpa using h) (by simpa using hv)
        simp only [List.set_cons_succ, List.countP_cons]
        omega
  exact key _ _ _ hv
theorem all_of_unlisted {listed : Array Bool} (h : unlisted listed = 0) (i : Nat) : listed.getD i true = true := by
  rcases Nat.lt_or_ge i listed.size with h' | h'
  · unfold unlisted at h
    rw [List.countP_eq_zero] at h
    have := h listed[i] (by simp)
    simpa [Array.getD, h'] using this
  · simp [Array.getD, show ¬ i < listed.size by omega]
theorem all_of_ready {ops : List Oper} (hB : relB ops = true) {listed : Array Bool} (hl : listed.size = ops.length) (h : Region.ready .any ops.toArray listed = []) : ∀ i, listed.getD i true = true := by
  intro i
  induction i using Nat.strongRecOn with
  | ind i ih =>
    cases hi : listed.getD i true with
    | true => rfl
    | false =>
      exfalso
      have hlt : i < ops.length := by
        rcases Nat.lt_or_ge i ops.length with h' | h'
        · exact h'
        · simp [Array.getD, show ¬ i < listed.size by omega] at hi
      have ho : ops[i]? = some ops[i] := List.getElem?_eq_getElem hlt
      have : i ∈ Region.ready .any ops.toArray listed := mem_ready.2 ⟨hi, ops[i], by simpa using ho, fun e he hb => by
        have h1 := (relOp_spec (relB_at hB ho)).2.2.2 e he hb
        have h2 := ih e.on h1
        rcases Nat.lt_or_ge e.on listed.size with h' | h'
        · simpa [Array.getD, h'] using h2
        · omega⟩
      rw [h] at this
      cases this

theorem wpAny_of_rel {ops : List Oper} {Rs : List RSpec} {a0 : Act} {Q : Exit → Act → World → Prop} (hB : relB ops = true) (hlen : ops.length = Rs.length) (htr : ∀ a b c, Le a b → Le b c → Le a c)
    (hmono : ∀ (j : Nat) (R : RSpec), Rs[j]? = some R → ∀ v w w', Le w w' → R v w → R v w') (h : wpLexR P Le w0 (Q .normal) ops Rs [] a0) :
    ∀ (fuel : Nat) (listed : Array Bool) (a : Act) (w : World), unlisted listed = fuel → InvR ops Rs Le w0 a0 listed a w → wpAny P .any ops.toArray Q fuel listed a w := by
  have fin : ∀ (listed : Array Bool) (a : Act) (w : World), (∀ i, listed.getD i true = true) → InvR ops Rs Le w0 a0 listed a w → Q .normal a w := by
    intro listed a w hall hI
    have e1 : lexAct ops (vals ops a) a0 = a := by
      have e2 : (lexAct ops (vals ops a) a0).tmps = a.tmps := by
        apply Array.ext_getElem?
        intro t
        rw [lexAct_get ops a0 hI.size.symm t]
        split
        · rfl
        · rename_i hn
          exact (hI.old t fun j o ho _ e => hn ⟨o, List.mem_of_getElem? ho, e⟩).symm
      have e3 : (lexAct ops (vals ops a) a0).defers = a.defers := (lexAct_defers _ _ _).trans hI.defers.symm
      cases hx : lexAct ops (vals ops a) a0 with
      | mk t d =>
        rw [hx] at e2 e3
        cases a
        simp only at e2 e3
        rw [e2, e3]
    have := wpLexR_end hlen h (vals ops a) (by simp [vals]) w hI.le (facts_lex ops Rs [] trivial fun i o R ho hR => hI.new i o R ho hR (hall i))
    rwa [e1] at this
  intro fuel
  induction fuel with
  | zero =>
    intro listed a w hu hI
    have hall := all_of_unlisted hu
    refine ⟨?_, fin listed a w hall hI⟩
    rw [List.eq_nil_iff_forall_not_mem]
    intro i hi
    have := (mem_ready.1 hi).1
    rw [hall i] at this
    cases this
  | succ fuel ih =>
    intro listed a w hu hI
    refine ⟨fun hr => fin listed a w (all_of_ready hB hI.lsize hr) hI, fun i hi => ?_⟩
    obtain ⟨hun, o, ho', hafter⟩ := mem_ready.1 hi
    have ho : ops[i]? = some o := by simpa using ho'
    obtain ⟨hg, hsel, hdep, hlow⟩ := relOp_spec (relB_at hB ho)
    have hil : i < ops.length := lt_of_some ho
    obtain ⟨R, hR⟩ : ∃ R, Rs[i]? = some R := ⟨_, List.getElem?_eq_getElem (by omega)⟩
    unfold wpOp
    simp only [ho']
    rw [if_pos (by simp [Region.wanted, hg])]
    refine .inl ?_
    have hob := wpLexR_op i h o R ho hR (vals (ops.take i) a) (by simp [vals]; omega) w hI.le (needs_lex (b := a) _ _ _ trivial fun j p R' t hj hR' ht hm => by
      have hji : j < i := by have := lt_of_some hj; simp at this; omega
      rw [List.getElem?_take, if_pos hji] at hj hR'
      obtain ⟨_, e, he, hb, hon⟩ := (hdep j p t hj (by omega) ht).2 hm
      have h1 := hafter e he hb
      rw [hon] at h1
      refine hI.new j p R' hj hR' ?_
      rcases Nat.lt_or_ge j listed.size with h' | h'
      · simpa [Array.getD, h'] using h1
      · simp [Array.getD, show ¬ j < listed.size by omega])
    refine wp_transfer hg (execOp_congr o hsel fun x hx => ?_) ((lexAct_size _ _ _).trans hI.size.symm) hob fun v w' hle hRv => ?_
    · cases x with
      | tmp t =>
        have hm : t ∈ tempsOf o := List.mem_filterMap.2 ⟨.tmp t, by simpa using hx, rfl⟩
        have e1 : (lexAct (ops.take i) (vals (ops.take i) a) a0).tmps[t]? = a.tmps[t]? := by
          rw [lexAct_get _ a0 hI.size.symm t]
          split
          · rfl
          · rename_i hn
            refine (hI.old t fun j p hj hlj e => ?_).symm
            by_cases hji : j = i
            · subst hji
              rw [hun] at hlj; cases hlj
            · have h2 := ((hdep j p t hj hji e).2 hm).1
              exact hn ⟨p, List.mem_of_getElem? (i := j) (by rw [List.getElem?_take, if_pos h2]; exact hj), e⟩
        simp only [Act.eval, Array.getD_eq_getD_getElem?, e1]
      | _ => rfl
    · refine ih _ _ _ (by have := unlisted_set hun; omega) ⟨htr _ _ _ hI.le hle, put_size.trans hI.size, put_defers.trans hI.defers, by simp [hI.lsize], fun t ht => ?_, fun j p R' hj hR' hlj => ?_⟩
      · rw [getD_put, if_neg]
        · refine hI.old t fun j p hj hlj => ht j p hj ?_
          by_cases hji : j = i
          · subst hji; rw [hun] at hlj; cases hlj
          · simp only [Array.getD_eq_getD_getElem?] at hlj ⊢
            rwa [Array.getElem?_setIfInBounds_ne (Ne.symm hji)]
        · rintro ⟨e, _⟩
          refine ht i o ho ?_ e
          simp only [Array.getD_eq_getD_getElem?]
          rw [Array.getElem?_setIfInBounds_self]
          split <;> rfl
      · by_cases hji : j = i
        · subst hji
          rw [ho] at hj; rw [hR] at hR'
          injection hj with hj; injection hR' with hR'
          subst hj hR'
          exact hRv
        · have hlj' : listed.getD j true = true := by
            simp only [Array.getD_eq_getD_getElem?] at hlj ⊢
            rwa [Array.getElem?_setIfInBounds_ne (Ne.symm hji)] at hlj
          have hv : valOf p (a.put o.dst v) = valOf p a := by
            unfold valOf
            cases hp : p.dst with
            | none => rfl
            | some t =>
              have := (hdep j p t hj hji hp).1
              simp only [Array.getD_eq_getD_getElem?]
              rw [getD_put, if_neg (fun h => this h.1)]
          rw [hv]
          exact hmono j R' hR' _ _ _ hle (hI.new j p R' hj hR' hlj')

def eqV (c : Value) : RSpec := fun v _ => v = c
/-- The later worlds: draws, new blocks. -/
def Grown (a b : World) : Prop := ∃ q os, b = Sort.grow (a.drewN q) os
theorem Grown.refl (a : World) : Grown a a := ⟨0, #[], by simp [World.drewN_zero]⟩
theorem Grown.trans {a b c : World} (h : Grown a b) (k : Grown b c) : Grown a c := by
  obtain ⟨q, os, rfl⟩ := h
  obtain ⟨q', os', rfl⟩ := k
  refine ⟨q + q', os ++ os', ?_⟩
  rw [← Sort.grow_grow]
  show Sort.grow (Sort.grow ((a.drewN q).drewN q') os) os' = _
  rw [World.drewN_drewN]
theorem Grown.alloc (a : World) (o : Obj) : Grown a (a.alloc o) := ⟨0, #[o], by rw [Sort.alloc_eq_grow]; rfl⟩
theorem Grown.drew (a : World) : Grown a { a with drawn := a.drawn + 1 } := ⟨1, #[], by simp [World.drewN]⟩
theorem Grown.below {a b : World} (h : Grown a b) : Below a.heap.size a b := by
  obtain ⟨q, os, rfl⟩ := h
  refine ⟨rfl, rfl, rfl, by simp, fun k hk => ?_⟩
  exact (Sort.heap_grow_old (a.drewN q) os (by simpa using hk))

/-- **The law.** -/
theorem wp_region_rel {id : Nat} {ops : List Oper} {Q : Exit → Act → World → Prop} {a : Act} {w : World} (Le : World → World → Prop) (Rs : List RSpec) (hm : P.follows .mixedOrders = true) (hB : relB ops = true) (hlen : ops.length = Rs.length)
    (hrf : ∀ a, Le a a) (htr : ∀ a b c, Le a b → Le b c → Le a c) (hmono : ∀ (j : Nat) (R : RSpec), Rs[j]? = some R → ∀ v w w', Le w w' → R v w → R v w')
    (h : wpLexR P Le { w with drawn := w.drawn + 1 } (Q .normal) ops Rs [] a) : (Code.region id ops.toArray true).wp P Q a w := by
  refine wp_region_any hm ?_
  have hsz : ops.toArray.size = ops.length := by simp
  refine wpAny_of_rel hB hlen htr hmono h _ _ a _ ?_ ⟨hrf _, rfl, rfl, by simp, fun t _ => rfl, fun j o R hj hR hlj => ?_⟩
  · unfold unlisted; simp [List.countP_replicate]
  · have hlt := lt_of_some hj
    simp [Array.getD, hlt] at hlj
end
end Go.Proofs.Ytpbajggbinljiaa
