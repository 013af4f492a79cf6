/-
  A list that a call collects by append in a slice of its own: 'Coll R size e B w v L': v holds, in world w, a slice of the call's own (its block lies from B on) whose elements read as L; and the law of append for it.
-/
import Derived.Test.YtpbajggbinljiaaMem
namespace Go.Proofs.Ytpbajggbinljiaa
set_option linter.unusedVariables false
set_option linter.unusedSimpArgs false
set_option linter.unnecessarySimpa false
set_option linter.unusedSectionVars false
open Go.RowKit

section
variable {P : Program} (w : World)
/-- append onto a slice of the call's own: where the new slice lies. -/
theorem run_append_buf (base : Nat) (t ty e : TypeId) (i : TypeInfo) (z : Value) (size bytes : Nat) (ht : P.underlying t = some (.slice e)) (hi : P.info? e = some i) (hz : i.zero = some z)
    (hsize : i.size = size) (hby : i.bytes = bytes) (hzs : z.cells.size = size) (hsz : 0 < size)
    (v : Value) (n : Nat) (xs : List Value) (hown : w.ownsRow base e size v n xs)
    (a : Addr) (m c : Nat) (news : List Value) (hl : news.length = m * size) (hnews : ∀ j u, news[j]? = some u → w.cell? (a.add j) = some u) (h1 : ∀ u ∈ news, u.oneCell' = true)
    (h63 : n + m ≤ maxLen) (hbytes : (n + m) * bytes ≤ 140737488355328) (hbase : base ≤ w.heap.size) :
    ∃ v' w', (Builtin.append_ #[t, t] ty #[v, .slice (some a) m c]).run P w = .ok v' w' ∧ w'.ownsRow base e size v' (n + m) (xs ++ news) ∧ w.grownBy w' v.ownBlock ∧
      (v' = .slice none 0 0 ↔ v = .slice none 0 0 ∧ m = 0) ∧ (v'.ownBlock = v.ownBlock ∨ v'.ownBlock = some w.heap.size) := by
  obtain ⟨v', w', hr, h2, h3, h4⟩ := run_append_own (P := P) w base t ty e i z size bytes ht hi hz hsize hby hzs hsz v n xs hown a m c news hl hnews h1 h63 hbytes hbase
  refine ⟨v', w', hr, h2, h3, h4, ?_⟩
  have hsmall : n + m ≤ 9223372036854775807 := by simp only [maxLen] at h63; omega
  rcases hown.2 with ⟨rfl, rfl⟩ | ⟨g, cap, cur, rfl, hbg, hg, hnc, hcm, hcs, htake⟩
  · by_cases hm : m = 0
    · left; rw [h4.2 ⟨rfl, hm⟩]
    · right
      subst hsize hby
      have hr2 := run_append_nil (P := P) w t ty e i z ht hi hz a m c news hl hnews (by omega) (by omega) (by have hb := hbytes; simp only [Nat.zero_add] at hb; omega)
      rw [hr2] at hr
      injection hr with e1 e2
      rw [← e1]; rfl
  · by_cases hroom : n + m ≤ cap
    · left
      subst hsize hby
      have hfit : n * i.size + news.length ≤ cur.size := by rw [hl, hcs, ← Nat.add_mul]; exact Nat.mul_le_mul_right _ hroom
      have hr2 := run_append_room (P := P) w t ty e i ht hi g n cap cur hg a m c news hl hnews h1 hroom hfit
      rw [hr2] at hr
      injection hr with e1 e2
      rw [← e1]; rfl
    · right
      have holds : ∀ j u, xs[j]? = some u → w.cell? ((⟨g, 0, none⟩ : Addr).add j) = some u := hown.cells (g := g) rfl
      subst hsize hby
      have hr2 := run_append_grow (P := P) w t ty e i z ht hi hz ⟨g, 0, none⟩ n cap xs hown.1 holds a m c news hl hnews (by omega) (by omega) (growslice_fits (by omega) hbytes)
      rw [hr2] at hr
      injection hr with e1 e2
      rw [← e1]; rfl
end

/-- The list L, collected in v; no block of X is v's own, or one through which an element reads. -/
def Coll {α : Type} (R : Rel α) (size : Nat) (e : TypeId) (B : Nat) (X : Nat → Prop) (w : World) (v : Value) (L : List α) : Prop :=
  ∃ xs, w.ownsRow B e size v L.length xs ∧ (∀ g, v.ownBlock = some g → ¬ X g) ∧ ∀ (i : Nat) (x : α), L[i]? = some x → ∃ (vs : List Value) (lo hi : Nat), R lo hi w x vs ∧ vs.length = size ∧ B ≤ lo ∧ hi ≤ w.heap.size ∧ (∀ g, v.ownBlock = some g ∨ X g → g < lo ∨ hi ≤ g) ∧ ∀ (j : Nat) (u : Value), vs[j]? = some u → xs[i * size + j]? = some u
def noBlock : Nat → Prop := fun _ => False

section
variable {α : Type} {R : Rel α} {size : Nat} {e : TypeId} {B : Nat} {X : Nat → Prop} {w : World} {v : Value} {L : List α}
theorem Coll.nil (R : Rel α) (size : Nat) (e : TypeId) (B : Nat) (X : Nat → Prop) (w : World) : Coll R size e B X w (.slice none 0 0) [] :=
  ⟨[], World.ownsRow_nil w B e size, (fun g hg => by cases hg), fun i x h => by simp at h⟩
/-- an empty slice that the call has laid: '[]T{}', 'make([]T, 0)' -/
theorem Coll.empty (R : Rel α) {size : Nat} {e : TypeId} {g cap : Nat} {cur : Array Value} (h : w.heap[g]? = some (.cells cur e (0, 0))) (hB : B ≤ g) (hX : ¬ X g) (hc : cap ≤ maxLen) (hs : cur.size = cap * size) : Coll R size e B X w (.slice (some ⟨g, 0, none⟩) 0 cap) [] :=
  ⟨[], ⟨by simp, .inr ⟨g, cap, cur, rfl, hB, h, Nat.zero_le _, hc, hs, by simp⟩⟩, (fun g' hg => by simp [Value.ownBlock] at hg; exact hg ▸ hX), fun i x h => by simp at h⟩
/-- Nothing that lay there has turned, but for the blocks of X. -/
theorem Coll.keep {w' : World} (hR : Keeps R) (h : Coll R size e B X w v L) (hb : ∀ b, B ≤ b → b < w.heap.size → ¬ X b → w'.heap[b]? = w.heap[b]?) (hz : w.heap.size ≤ w'.heap.size) : Coll R size e B X w' v L := by
  obtain ⟨xs, ho, hn, hx⟩ := h
  refine ⟨xs, ?_, hn, fun i x hi => ?_⟩
  · refine ⟨ho.1, ?_⟩
    rcases ho.2 with hn | ⟨g, cap, cur, rfl, hbg, hgg, rest⟩
    · exact .inl hn
    · exact .inr ⟨g, cap, cur, rfl, hbg, (hb g hbg (Array.getElem?_eq_some_iff.1 hgg).1 (hn g rfl)).trans hgg, rest⟩
  · obtain ⟨vs, lo, hi', hr, hl, h1, h2, h3, h4⟩ := hx i x hi
    exact ⟨vs, lo, hi', hR _ _ _ _ _ _ _ _ (Nat.le_refl _) (Nat.le_refl _) (fun b k1 k2 => hb b (by omega) (by omega) (fun hXb => by have := h3 b (.inr hXb); omega)) hr, hl, h1, by omega, h3, h4⟩
theorem Coll.below {w' : World} (hR : Keeps R) (h : Coll R size e B X w v L) (hb : Below w.heap.size w w') : Coll R size e B X w' v L := h.keep hR (fun b _ k _ => hb.block b k) hb.size
theorem Coll.lt (h : Coll R size e B X w v L) : ∀ k, v.ownBlock = some k → B ≤ k ∧ k < w.heap.size := by obtain ⟨xs, ho, _⟩ := h; exact ho.lt
theorem Coll.notX (h : Coll R size e B X w v L) : ∀ k, v.ownBlock = some k → ¬ X k := by obtain ⟨xs, ho, hn, _⟩ := h; exact hn
/-- Read as a slice. -/
theorem Coll.slice (hR : Keeps R) (h : Coll R size e B X w v L) : ∃ p cap, v = .slice p L.length cap ∧ SliceOf R size B w.heap.size w p L.length cap L := by
  obtain ⟨xs, ho, hn, hx⟩ := h
  exact slice_of_owns ho rfl (Nat.le_refl _) (Nat.le_refl _) fun i x hi => by
    obtain ⟨vs, lo, hi', hr, hl, h1, h2, h3, h4⟩ := hx i x hi
    exact ⟨vs, hR _ _ _ _ _ _ _ _ h1 h2 (Agree.refl _ _ _) hr, hl, h4⟩

/-- One element more, as the law of append leaves it. -/
theorem Coll.snoc {w' : World} {v' : Value} {xs vs : List Value} {el : α} {lo hi : Nat} (hR : Keeps R) (hown : w.ownsRow B e size v L.length xs) (hn : ∀ g, v.ownBlock = some g → ¬ X g)
    (hxs : ∀ (i : Nat) (x : α), L[i]? = some x → ∃ (vs : List Value) (lo hi : Nat), R lo hi w x vs ∧ vs.length = size ∧ B ≤ lo ∧ hi ≤ w.heap.size ∧ (∀ g, v.ownBlock = some g ∨ X g → g < lo ∨ hi ≤ g) ∧ ∀ (j : Nat) (u : Value), vs[j]? = some u → xs[i * size + j]? = some u)
    (h2 : w'.ownsRow B e size v' (L.length + 1) (xs ++ vs)) (h3 : w.grownBy w' v.ownBlock) (h5 : v'.ownBlock = v.ownBlock ∨ v'.ownBlock = some w.heap.size) (hX : ¬ X w.heap.size)
    (hel : R lo hi w el vs) (hl : vs.length = size) (hlo : B ≤ lo) (hhi : hi ≤ w.heap.size) (hdis : ∀ g, v.ownBlock = some g ∨ X g → g < lo ∨ hi ≤ g) : Coll R size e B X w' v' (L ++ [el]) := by
  have agree : ∀ lo hi, (∀ g, v.ownBlock = some g ∨ X g → g < lo ∨ hi ≤ g) → hi ≤ w.heap.size → Agree lo hi w w' := fun lo hi hd hh b k1 k2 => h3.block b (by omega) (fun e => by have := hd b (.inl e.symm); omega)
  have own : ∀ lo hi, (∀ g, v.ownBlock = some g ∨ X g → g < lo ∨ hi ≤ g) → hi ≤ w.heap.size → ∀ g, v'.ownBlock = some g ∨ X g → g < lo ∨ hi ≤ g := fun lo hi hd hh g hg => by
    rcases hg with hg | hg
    · rcases h5 with h5 | h5
      · exact hd g (.inl (h5 ▸ hg))
      · rw [h5] at hg; injection hg with hg; omega
    · exact hd g (.inr hg)
  have hsize := h3.size
  refine ⟨xs ++ vs, by simpa using h2, fun g hg => ?_, fun k y hk => ?_⟩
  · rcases h5 with h5 | h5
    · exact hn g (h5 ▸ hg)
    · rw [h5] at hg; injection hg with hg; rw [← hg]; exact hX
  by_cases hkl : k < L.length
  · rw [List.getElem?_append_left hkl] at hk
    obtain ⟨us, lo', hi', hr', hl', q1, q2, q3, q4⟩ := hxs k y hk
    refine ⟨us, lo', hi', hR _ _ _ _ _ _ _ _ (Nat.le_refl _) (Nat.le_refl _) (agree _ _ q3 q2) hr', hl', q1, by omega, own _ _ q3 q2, fun j u hj => ?_⟩
    have := q4 j u hj
    rw [List.getElem?_append_left (lt_of_some this)]
    exact this
  · have hkl' : k = L.length := by have := lt_of_some hk; simp at this; omega
    subst hkl'
    simp at hk
    subst hk
    refine ⟨vs, lo, hi, hR _ _ _ _ _ _ _ _ (Nat.le_refl _) (Nat.le_refl _) (agree _ _ hdis hhi) hel, hl, hlo, by omega, own _ _ hdis hhi, fun j u hj => ?_⟩
    rw [← hown.1, List.getElem?_append_right (by omega)]
    simpa using hj
end

/-- **append(l, x)**: one element more, read off the new slice at address ad: what the operation's run is. -/
theorem run_append_coll {P : Program} {w : World} {α : Type} {R : Rel α} {B size : Nat} {e : TypeId} {X : Nat → Prop} {v : Value} {L : List α} (hR : Keeps R) (hc : Coll R size e B X w v L) (t ty : TypeId) (z : Value) (bytes : Nat) (ht : P.underlying t = some (.slice e))
    (hinfo : (P.info? e).map (fun i => (i.zero, i.size, i.bytes)) = some (some z, size, bytes)) (hzs : z.cells.size = size) (hsz : 0 < size)
    (ad : Addr) (c : Nat) (vs : List Value) (el : α) (lo hi : Nat) (hel : R lo hi w el vs) (hl : vs.length = size)
    (hnews : ∀ j u, vs[j]? = some u → w.cell? (ad.add j) = some u) (h1 : ∀ u ∈ vs, u.oneCell' = true) (hlo : B ≤ lo) (hhi : hi ≤ w.heap.size) (hdis : ∀ g, v.ownBlock = some g ∨ X g → g < lo ∨ hi ≤ g) (hX : ¬ X w.heap.size)
    (hsmall : (L.length + 1) * bytes ≤ 140737488355328) (hlen : L.length + 1 ≤ maxLen) (hbase : B ≤ w.heap.size) :
    ∃ v' w', (Builtin.append_ #[t, t] ty #[v, .slice (some ad) 1 c]).run P w = .ok v' w' ∧ Coll R size e B X w' v' (L ++ [el]) ∧ w.grownBy w' v.ownBlock := by
  obtain ⟨i, hi1, hi2⟩ := Option.map_eq_some_iff.1 hinfo
  simp only [Prod.mk.injEq] at hi2
  obtain ⟨hz, hsi, hby⟩ := hi2
  obtain ⟨xs, hown, hn, hxs⟩ := hc
  obtain ⟨v', w', hr, h2, h3, h4, h5⟩ := run_append_buf (P := P) w B t ty e i z size bytes ht hi1 hz hsi hby hzs hsz v L.length xs hown ad 1 c vs (by omega) hnews h1 hlen hsmall hbase
  exact ⟨v', w', hr, Coll.snoc hR hown hn hxs h2 h3 h5 hX hel hl hlo hhi hdis, h3⟩

/-- .. as a law of the walk -/
theorem wpList_append_coll {P : Program} {w : World} {ops : Array Oper} {rest : List Oper} {o : Oper} {a : Act} {Q : Exit → Act → World → Prop} (hgd : o.guard = none) (s x : Operand) (t : TypeId)
    (ho : o.op = .call { callee := .builtin .append, args := #[s, x], argTypes := #[t, t] })
    {α : Type} {R : Rel α} {B size : Nat} {e : TypeId} {X : Nat → Prop} {v : Value} {L : List α} (hR : Keeps R) (hc : Coll R size e B X w v L) (z : Value) (bytes : Nat) (ht : P.underlying t = some (.slice e))
    (hinfo : (P.info? e).map (fun i => (i.zero, i.size, i.bytes)) = some (some z, size, bytes)) (hzs : z.cells.size = size) (hsz : 0 < size) (hs : a.eval s = v)
    (ad : Addr) (c : Nat) (vs : List Value) (el : α) (lo hi : Nat) (hx : a.eval x = .slice (some ad) 1 c) (hel : R lo hi w el vs) (hl : vs.length = size)
    (hnews : ∀ j u, vs[j]? = some u → w.cell? (ad.add j) = some u) (h1 : ∀ u ∈ vs, u.oneCell' = true) (hlo : B ≤ lo) (hhi : hi ≤ w.heap.size) (hdis : ∀ g, v.ownBlock = some g ∨ X g → g < lo ∨ hi ≤ g) (hX : ¬ X w.heap.size)
    (hsmall : (L.length + 1) * bytes ≤ 140737488355328) (hlen : L.length + 1 ≤ maxLen) (hbase : B ≤ w.heap.size)
    (h : ∀ v' w', Coll R size e B X w' v' (L ++ [el]) → w.grownBy w' v.ownBlock → wpList P ops Q rest (a.put o.dst v') w') : wpList P ops Q (o :: rest) a w := by
  refine wpList_plain hgd fun K hK => ?_
  obtain ⟨v', w', hr, h2, h3⟩ := run_append_coll (P := P) hR hc t o.type z bytes ht hinfo hzs hsz ad c vs el lo hi hel hl hnews h1 hlo hhi hdis hX hsmall hlen hbase
  unfold Oper.wp execOp
  simp only [ho, resolve, invoke, builtin, Sem.run_bind, Sem.run_pure, Result.andThen_ok, List.map_toArray, List.map_cons, List.map_nil, hs, hx, hr]
  exact hK _ _ (h v' w' h2 h3)
/-- append, by its run's equation -/
theorem wpList_append_eq {P : Program} {w w' : World} {ops : Array Oper} {rest : List Oper} {o : Oper} {a : Act} {Q : Exit → Act → World → Prop} (hgd : o.guard = none) (s x : Operand) (t ty : TypeId)
    (ho : o.op = .call { callee := .builtin .append, args := #[s, x], argTypes := #[t, t] }) (hty : o.type = ty) {v1 v2 v : Value} (hs : a.eval s = v1) (hx : a.eval x = v2)
    (hr : (Builtin.append_ #[t, t] ty #[v1, v2]).run P w = .ok v w') (h : wpList P ops Q rest (a.put o.dst v) w') : wpList P ops Q (o :: rest) a w := by
  refine wpList_plain hgd fun K hK => ?_
  subst hty
  unfold Oper.wp execOp
  simp only [ho, resolve, invoke, builtin, Sem.run_bind, Sem.run_pure, Result.andThen_ok, List.map_toArray, List.map_cons, List.map_nil, hs, hx, hr]
  exact hK _ _ h
end Go.Proofs.Ytpbajggbinljiaa
