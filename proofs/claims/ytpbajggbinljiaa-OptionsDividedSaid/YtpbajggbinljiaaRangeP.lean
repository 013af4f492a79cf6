/-
  A range over a function whose iterator keeps one block p of its own between two rounds (it may write p and lay new blocks; whatever else lay there lies as it lay): the iterator's contract 'SeqP', and the law of the statement 'for .. := range seq { .. }' over it.
-/
import Derived.Test.YtpbajggbinljiaaMem
import Derived.RangeFuncNested
import Derived.RangeFuncBound
import Derived.RangeFuncCalls
import Derived.RangeFuncLeaves
import Derived.Shelf.Abstract
import Derived.Shelf.RegionOpen
import Derived.OwnWalkIn
import Derived.TacticsInMore
import Derived.LoopNIn
import Derived.LoopIn
namespace Go.Proofs.Ytpbajggbinljiaa
set_option linter.unusedVariables false
set_option linter.unusedSimpArgs false
set_option linter.unnecessarySimpa false
set_option linter.unusedSectionVars false
open Go.RowKit Go.Shelf

/-- The iterator's own block, if it has one, lies from B on. -/
def From (B : Nat) (p : Option Nat) : Prop := ∀ k, p = some k → B ≤ k
theorem From.mono {B B' : Nat} {p : Option Nat} (h : From B p) (hB : B' ≤ B) : From B' p := fun k e => Nat.le_trans hB (h k e)
theorem From.ne {B l : Nat} {p : Option Nat} (h : From B p) (hl : l < B) : p ≠ some l := fun e => by have := h l e; omega
/-- What a round keeps for the iterator: all that lies below n0, and the iterator's own block p. -/
def KeepP (n0 : Nat) (p : Option Nat) (W W' : World) : Prop := Below n0 W W' ∧ ∀ k, p = some k → k < W.heap.size → W'.heap[k]? = W.heap[k]?
theorem KeepP.refl (n0 : Nat) (p : Option Nat) (W : World) : KeepP n0 p W W := ⟨Below.refl _ _, fun _ _ _ => rfl⟩
theorem KeepP.trans {n0 : Nat} {p : Option Nat} {A B C : World} (h : KeepP n0 p A B) (k : KeepP n0 p B C) : KeepP n0 p A C :=
  ⟨h.1.trans k.1, fun j e hp => (k.2 j e (Nat.lt_of_lt_of_le hp h.1.size)).trans (h.2 j e hp)⟩
theorem KeepP.putObj {n0 l : Nat} {p : Option Nat} {W : World} (o : Obj) (h1 : n0 ≤ l) (h2 : p ≠ some l) (hl : l < W.heap.size) : KeepP n0 p W (W.putObj l o) :=
  ⟨(Below.refl n0 W).grown (grownBy_putObj' W l o) (by omega) (fun k e => by cases e; exact h1), fun j e _ => World.putObj_heap_other (fun e' => h2 (by rw [e, e']))⟩
theorem KeepP.of_below {n0 : Nat} {p : Option Nat} {W W' : World} (h : Below W.heap.size W W') (hn : n0 ≤ W.heap.size) : KeepP n0 p W W' := ⟨h.mono hn, fun k _ hp => h.block k hp⟩
theorem KeepP.of_grown {n0 : Nat} {p : Option Nat} {W W' : World} {row : Option Nat} (hg : W.grownBy W' row) (hn : n0 ≤ W.heap.size) (hr : ∀ k, row = some k → n0 ≤ k ∧ p ≠ some k) : KeepP n0 p W W' :=
  ⟨(Below.refl n0 W).grown hg hn (fun k e => (hr k e).1), fun j e hp => hg.block j hp (fun e' => (hr j e'.symm).2 e)⟩

/-- **The iterator's contract**: called in W at the yield of whatever loop l, with whatever invariants J (it goes on), Jx (it has been told to stop) of the caller's that abide its steps: it returns; a list xs with 'S xs' has come, or a part of one has, and it was told to stop. -/
def SeqP {α : Type} (P : Program) (g : Nat) (lb : Array Value) (n0 : Nat) (El : Option Nat → World → World → α → Array Value → Prop) (S Sp : List α → Prop) (N : Nat) (W : World) : Prop :=
  ∀ (l : Nat) (J Jx : Option Nat → List α → World → Prop),
    (∀ p s A B, From W.heap.size p → J p s A → A.grownBy B p → J p s B) → (∀ p s A B, From W.heap.size p → Jx p s A → A.grownBy B p → Jx p s B) →
    (∀ p pre x W0 W1 args, From W.heap.size p → (∀ k, p = some k → k < W1.heap.size) → J p pre W0 → W0.grownBy W1 p → pre.length < N → El p W0 W1 x args → YieldAt Fence.wide 0 P l args W1 fun e W' =>
      (e = .returned (.bool true) ∧ J p (pre ++ [x]) W' ∧ KeepP n0 p W1 W') ∨ (e = .returned (.bool false) ∧ Jx p (pre ++ [x]) W')) →
    (∀ p, From W.heap.size p → J p [] W) →
    CallsIn Fence.wide 0 P g (#[.func (.yield l) #[] #[]] ++ lb) W fun e W' => (∃ v, e = .returned v) ∧ ((∃ p xs, From W.heap.size p ∧ S xs ∧ J p xs W') ∨ (∃ p pre, From W.heap.size p ∧ Sp pre ∧ Jx p pre W'))

/-- How the body of a round may be left. -/
def postP {α : Type} (B n0 : Nat) (p : Option Nat) (I : Option Nat → List α → World → Prop) (Ix : Option Nat → Code → List α → World → Prop) (xs : List α) (W : World) : Exit → Act → World → Prop
  | .normal, _, W' => KeepsFrom B W W' ∧ KeepP n0 p W W' ∧ I p xs W'
  | .ret, _, W' => KeepsFrom B W W' ∧ Ix p .ret xs W'
  | .exit id, _, W' => KeepsFrom B W W' ∧ Ix p (.exit id) xs W'
  | .goto t, _, W' => KeepsFrom B W W' ∧ Ix p (.goto t) xs W'
  | .panic _, _, _ => False
  | .outgrown, _, _ => False

section
variable {P : Program}
/-- what the invariant of a loop must abide: the iterator's steps, and the loop's own book-keeping -/
structure Abide {β : Type} (B : Nat) (I : Option Nat → β → World → Prop) : Prop where
  step : ∀ p s A A', From B p → I p s A → A.grownBy A' p → I p s A'
  book : ∀ p s A l o o', From B p → p ≠ some l → I p s A → B ≤ l → l < B + 2 → A.heap[l]? = some o → o.isCells = false → I p s (A.putObj l o')

/-- **The law of 'for x := range seq { body }'.** -/
theorem wpIn_rangeP {α : Type} {g : Operand} {ps : Array Tmp} {assign body : Code} {Q : Exit → Act → World → Prop} {a : Act} {w : World}
    {gf : Nat} {lb : Array Value} (hg : a.eval g = .func (.func gf) #[] lb) (eg : ∀ args w, (callFunc gf args).run P w = .ok (.enter gf args) w)
    {n0 : Nat} (hn0 : n0 ≤ w.heap.size) {El : Option Nat → World → World → α → Array Value → Prop} {S Sp : List α → Prop} {N : Nat}
    (hseq : ∀ W, Below w.heap.size w W → w.heap.size + 2 ≤ W.heap.size → SeqP P gf lb n0 El S Sp N W)
    (hps : ∀ p W0 W x args, El p W0 W x args → args.size = ps.size)
    (I : Option Nat → List α → World → Prop) (Ix : Option Nat → Code → List α → World → Prop) (hI : Abide w.heap.size I) (hIx : ∀ c, Abide w.heap.size (fun p s W => Ix p c s W))
    (h0 : ∀ p W, Below w.heap.size w W → w.heap.size + 2 ≤ W.heap.size → From w.heap.size p → I p [] W)
    (A₁ : Option Nat → α → Array Value → Act → World → Prop)
    (hA : ∀ p x args a₁ W l o o', p ≠ some l → A₁ p x args a₁ W → w.heap.size ≤ l → l < w.heap.size + 2 → W.heap[l]? = some o → o.isCells = false → A₁ p x args a₁ (W.putObj l o'))
    (hassign : ∀ l p pre x args W0 W (K : Act → World → Prop), From (w.heap.size + 2) p → (∀ k, p = some k → k < W.heap.size) → I p pre W0 → W0.grownBy W p → I p pre W → El p W0 W x args →
      (∀ a₁ W', KeepsFrom w.heap.size W W' → KeepP n0 p W W' → I p pre W' → A₁ p x args a₁ W' → K a₁ W') →
      assign.wpIn (Fence.wide.inRound l) 0 P (Exit.then K (fun _ _ _ => False)) { tmps := (ps.zip args).foldl (fun t (p, v) => t.setIfInBounds p v) a.tmps, defers := [] } W)
    (hbody : ∀ l p pre x args a₁ W, From (w.heap.size + 2) p → (∀ k, p = some k → k < W.heap.size) → I p pre W → A₁ p x args a₁ W → pre.length < N → body.wpIn (Fence.wide.inRound l) 0 P (postP w.heap.size n0 p I Ix (pre ++ [x]) W) a₁ W)
    (hdone : ∀ D p xs W, D = w.heap.size → p ≠ some D → From w.heap.size p → S xs → I p xs W → W.heap[D]? = some (.deferred (some [])) → Q .normal { a with defers := { target := .collected D, args := #[] } :: a.defers } W)
    (hstop : ∀ D c p pre W, D = w.heap.size → p ≠ some D → From w.heap.size p → Sp pre → Ix p c pre W → W.heap[D]? = some (.deferred (some [])) → c.wpIn Fence.wide 0 P Q { a with defers := { target := .collected D, args := #[] } :: a.defers } W) :
    (Code.rangeFunc g ps assign body).wpIn Fence.wide 0 P Q a w := by
  refine wpIn_rangeFunc ?_
  intro fn hfn
  -- the record of the loop, by its state and its pending jump
  generalize hrec : (fun (st : LoopState) (pe : Option Code) => ({ state := st, pending := pe, fn, tmps := a.tmps, params := ps, assign, body, defers := w.heap.size } : Loop)) = rec
  have hst : ∀ st pe, (rec st pe).state = st := fun st pe => by rw [← hrec]
  have hpe : ∀ st pe, (rec st pe).pending = pe := fun st pe => by rw [← hrec]
  have hpa : ∀ st pe, (rec st pe).params = ps := fun st pe => by rw [← hrec]
  have hto : ∀ st pe st' pe', ({ rec st pe with state := st', pending := pe' } : Loop) = rec st' pe' := fun st pe st' pe' => by rw [← hrec]
  have hto1 : ∀ st pe st', ({ rec st pe with state := st' } : Loop) = rec st' pe := fun st pe st' => by rw [← hrec]
  let L := w.heap.size + 1
  let D := w.heap.size
  let W1 := (w.alloc (.deferred (some []))).alloc (.loop (rec .ready none))
  have hsz : W1.heap.size = w.heap.size + 2 := by simp [W1]
  have hLs : W1.heap[L]? = some (.loop (rec .ready none)) := by
    have := World.alloc_heap_new (w.alloc (.deferred (some []))) (.loop (rec .ready none)); rwa [World.size_alloc] at this
  have hDs : W1.heap[D]? = some (.deferred (some [])) := (Below.heap_alloc _ _ _ (by simp [D])).trans (World.alloc_heap_new w _)
  have hb1 : Below w.heap.size w W1 := ((Below.refl _ w).alloc (Nat.le_refl _) _).alloc (by simp) _
  refine ⟨L, [{ target := .collected D, args := #[] }], W1, { target := .fn (.func gf) lb, args := #[.func (.yield L) #[] #[]] }, W1, gf, #[.func (.yield L) #[] #[]] ++ lb, W1, ?_, ?_, fun _ _ => trivial, ?_, fun h => ?_, ?_⟩
  · have := run_enterLoop_outer (P := P) (w := w) fn a.tmps ps assign body
    rw [show Fence.wide.round = none from rfl, this]
    simp only [W1, L, D, ← hrec]
  · simp only [resolve, hg]
    simp [go_sem]
  · simp [invoke, go_sem, eg]
  · simp [Fence.wide] at h
  refine (hseq W1 hb1 (by omega) L (fun p pre W => I p pre W ∧ W.heap[L]? = some (.loop (rec .ready none)) ∧ W.heap[D]? = some (.deferred (some [])))
    (fun p pre W => ∃ c, Ix p c pre W ∧ W.heap[L]? = some (.loop (rec .done (some c))) ∧ W.heap[D]? = some (.deferred (some []))) ?_ ?_ ?_ ?_).mono ?_
  · rintro p s A B hp ⟨h1, h2, h3⟩ hgr
    rw [hsz] at hp
    refine ⟨hI.step p s A B (hp.mono (by omega)) h1 hgr, ?_, ?_⟩
    · rw [hgr.block L (Array.getElem?_eq_some_iff.1 h2).1 (fun e => hp.ne (by simp [L]) e.symm)]; exact h2
    · rw [hgr.block D (Array.getElem?_eq_some_iff.1 h3).1 (fun e => hp.ne (by simp [D]) e.symm)]; exact h3
  · rintro p s A B hp ⟨c, h1, h2, h3⟩ hgr
    rw [hsz] at hp
    refine ⟨c, (hIx c).step p s A B (hp.mono (by omega)) h1 hgr, ?_, ?_⟩
    · rw [hgr.block L (Array.getElem?_eq_some_iff.1 h2).1 (fun e => hp.ne (by simp [L]) e.symm)]; exact h2
    · rw [hgr.block D (Array.getElem?_eq_some_iff.1 h3).1 (fun e => hp.ne (by simp [D]) e.symm)]; exact h3
  · -- one round
    rintro p pre x W0 W args hp hpl ⟨hi0, hl0, hd0⟩ hg0 hlen hel
    rw [hsz] at hp
    have hi := hI.step p pre W0 W (hp.mono (by omega)) hi0 hg0
    have hl : W.heap[L]? = some (.loop (rec .ready none)) := (hg0.block L (Array.getElem?_eq_some_iff.1 hl0).1 (fun e => hp.ne (by simp [L]) e.symm)).trans hl0
    have hd : W.heap[D]? = some (.deferred (some [])) := (hg0.block D (Array.getElem?_eq_some_iff.1 hd0).1 (fun e => hp.ne (by simp [D]) e.symm)).trans hd0
    have hpL : p ≠ some L := hp.ne (by simp [L])
    have hp0 : From w.heap.size p := hp.mono (by omega)
    have hLlt : L < W.heap.size := (Array.getElem?_eq_some_iff.1 hl).1
    have hy := run_yield (P := P) (args := args) hl (by rw [hpa]; exact hps _ _ _ _ _ hel)
    rw [hpa] at hy
    refine ⟨_, _, _, _, hy, roundIn_of_wpIn trivial ?_⟩
    rw [show (rec LoopState.ready none).tmps = a.tmps by rw [← hrec], show (rec LoopState.ready none).assign = assign by rw [← hrec], show (rec LoopState.ready none).body = body by rw [← hrec]]
    refine hassign L p pre x args W0 W _ hp hpl hi0 hg0 hi hel ?_
    intro a₁ W2 hk2 hkp2 hi2 ha2
    have hl2 := hk2.same L _ (by simp [L]) hl rfl
    have hd2 := hk2.same D _ (by simp [D]) hd rfl
    have hL2 : L < W2.heap.size := (Array.getElem?_eq_some_iff.1 hl2).1
    refine ⟨_, run_beginRound hl2 (hst _ _), ?_⟩
    rw [hto1]
    have hbk := hI.book p pre W2 L _ (.loop (rec .busy none)) hp0 hpL hi2 (by simp [L]) (by simp [L]) hl2 rfl
    have ha3 := hA p x args a₁ W2 L _ (.loop (rec .busy none)) hpL ha2 (by simp [L]) (by simp [L]) hl2 rfl
    have hl3 : (W2.putObj L (.loop (rec .busy none))).heap[L]? = some (.loop (rec .busy none)) := World.putObj_heap_same hL2
    have hd3 : (W2.putObj L (.loop (rec .busy none))).heap[D]? = some (.deferred (some [])) := (World.putObj_heap_other (by simp [L, D])).trans hd2
    have hkp3 : KeepP n0 p W (W2.putObj L (.loop (rec .busy none))) := hkp2.trans (KeepP.putObj _ (by simp [L]; omega) hpL hL2)
    have fin : ∀ (jump : Option Code) (W4 : World), KeepsFrom w.heap.size (W2.putObj L (.loop (rec .busy none))) W4 →
        (Instr.endRound L jump).run P W4 = .ok (.bool jump.isNone) (W4.putObj L (.loop (rec (if jump.isNone then .ready else .done) jump))) ∧ W4.heap[L]? = some (.loop (rec .busy none)) ∧ L < W4.heap.size ∧
        (W4.putObj L (.loop (rec (if jump.isNone then .ready else .done) jump))).heap[L]? = some (.loop (rec (if jump.isNone then .ready else .done) jump)) ∧
        (W4.putObj L (.loop (rec (if jump.isNone then .ready else .done) jump))).heap[D]? = some (.deferred (some [])) := fun jump W4 hk => by
      have k1 := hk.same L _ (by simp [L]) hl3 rfl
      have k2 := hk.same D _ (by simp [D]) hd3 rfl
      have k3 : L < W4.heap.size := (Array.getElem?_eq_some_iff.1 k1).1
      have := run_endRound (P := P) jump k1
      rw [hto] at this
      exact ⟨this, k1, k3, World.putObj_heap_same k3, (World.putObj_heap_other (by simp [L, D])).trans k2⟩
    have hpl3 : ∀ k, p = some k → k < (W2.putObj L (.loop (rec .busy none))).heap.size := fun k e => Nat.lt_of_lt_of_le (hpl k e) hkp3.1.size
    refine wpIn_mono (hbody L p pre x args a₁ _ hp hpl3 hbk ha3 hlen) ?_
    intro e a4 W4 hpost
    match e, hpost with
    | .normal, ⟨k1, k2, k3⟩ =>
      obtain ⟨r1, r2, r3, r4, r5⟩ := fin none W4 k1
      exact ⟨_, _, r1, .inl ⟨rfl, ⟨hI.book p _ W4 L _ _ hp0 hpL k3 (by simp [L]) (by simp [L]) r2 rfl, r4, r5⟩, (hkp3.trans k2).trans (KeepP.putObj _ (by simp [L]; omega) hpL r3)⟩⟩
    | .ret, ⟨k1, k3⟩ =>
      obtain ⟨r1, r2, r3, r4, r5⟩ := fin (some .ret) W4 k1
      exact ⟨_, _, r1, .inr ⟨rfl, .ret, (hIx _).book p _ W4 L _ _ hp0 hpL k3 (by simp [L]) (by simp [L]) r2 rfl, r4, r5⟩⟩
    | .exit id, ⟨k1, k3⟩ =>
      obtain ⟨r1, r2, r3, r4, r5⟩ := fin (some (.exit id)) W4 k1
      exact ⟨_, _, r1, .inr ⟨rfl, .exit id, (hIx _).book p _ W4 L _ _ hp0 hpL k3 (by simp [L]) (by simp [L]) r2 rfl, r4, r5⟩⟩
    | .goto t, ⟨k1, k3⟩ =>
      obtain ⟨r1, r2, r3, r4, r5⟩ := fin (some (.goto t)) W4 k1
      exact ⟨_, _, r1, .inr ⟨rfl, .goto t, (hIx _).book p _ W4 L _ _ hp0 hpL k3 (by simp [L]) (by simp [L]) r2 rfl, r4, r5⟩⟩
  · intro p hp
    rw [hsz] at hp
    exact ⟨h0 p W1 hb1 (by omega) (hp.mono (by omega)), hLs, hDs⟩
  · -- behind the iterator
    rintro e W2 ⟨⟨v, rfl⟩, (⟨p, xs, hp, hS, hi, hl, hd⟩ | ⟨p, pre, hp, hS, c, hi, hl, hd⟩)⟩
    · rw [hsz] at hp
      refine ⟨none, _, by have := run_endLoop (P := P) hl (by rw [hst]; simp); rw [hto1, hpe] at this; exact this, ?_⟩
      exact hdone D p xs _ rfl (hp.ne (by simp [D])) (hp.mono (by omega)) hS (hI.book p _ W2 L _ _ (hp.mono (by omega)) (hp.ne (by simp [L])) hi (by simp [L]) (by simp [L]) hl rfl) ((World.putObj_heap_other (by simp [L, D])).trans hd)
    · rw [hsz] at hp
      refine ⟨some c, _, by have := run_endLoop (P := P) hl (by rw [hst]; simp); rw [hto1, hpe] at this; exact this, ?_⟩
      exact hstop D c p pre _ rfl (hp.ne (by simp [D])) (hp.mono (by omega)) hS ((hIx c).book p _ W2 L _ _ (hp.mono (by omega)) (hp.ne (by simp [L])) hi (by simp [L]) (by simp [L]) hl rfl) ((World.putObj_heap_other (by simp [L, D])).trans hd)
end
end Go.Proofs.Ytpbajggbinljiaa
