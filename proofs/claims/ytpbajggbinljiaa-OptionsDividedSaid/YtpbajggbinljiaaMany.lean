/-
  append(l, s...) onto a list that the call collects ('Coll'), the source a slice that reads as a list.
-/
import Derived.Test.YtpbajggbinljiaaColl
namespace Go.Proofs.Ytpbajggbinljiaa
set_option linter.unusedVariables false
set_option linter.unusedSimpArgs false
set_option linter.unnecessarySimpa false
set_option linter.unusedSectionVars false
open Go.RowKit

/-- every cell of an element is one cell -/
def OneCells {α : Type} (R : Rel α) : Prop := ∀ lo hi w x vs, R lo hi w x vs → ∀ u ∈ vs, u.oneCell' = true

theorem run_append_none {P : Program} {w : World} {base : Nat} {t ty e : TypeId} {i : TypeInfo} {size : Nat} (ht : P.underlying t = some (.slice e)) (hi : P.info? e = some i)
    {v : Value} {n : Nat} {xs : List Value} (hown : w.ownsRow base e size v n xs) (c : Nat) : (Builtin.append_ #[t, t] ty #[v, .slice none 0 c]).run P w = .ok v w := by
  rcases hown.2 with ⟨rfl, rfl⟩ | ⟨g, cap, cur, rfl, _, _, hnc, _⟩
  · simp [Builtin.append_, run_underlying ht, sizeOf, typeInfo, hi, Builtin.lenOf, Builtin.firstCells]
  · simp [Builtin.append_, run_underlying ht, sizeOf, typeInfo, hi, Builtin.lenOf, Builtin.firstCells, hnc, storeCells]

theorem addr_add0 (b off n : Nat) : (⟨b, off, none⟩ : Addr).add n = ⟨b, off + n, none⟩ := by
  unfold Addr.add; split <;> simp_all

/-- **append(v, s...)** -/
theorem run_append_many {P : Program} {w : World} {α : Type} {R : Rel α} {B size : Nat} {e : TypeId} {X : Nat → Prop} {v : Value} {L l : List α} (hR : Keeps R) (hOne : OneCells R) (hc : Coll R size e B X w v L) (t ty : TypeId) (z : Value) (bytes : Nat) (ht : P.underlying t = some (.slice e))
    (hinfo : (P.info? e).map (fun i => (i.zero, i.size, i.bytes)) = some (some z, size, bytes)) (hzs : z.cells.size = size) (hsz : 0 < size)
    {p : Option Addr} {n c lo hi : Nat} (hs : SliceOf R size lo hi w p n c l) (hlo : B ≤ lo) (hhi : hi ≤ w.heap.size) (hdis : ∀ g, v.ownBlock = some g ∨ X g → g < lo ∨ hi ≤ g) (hX : ¬ X w.heap.size)
    (hsmall : (L.length + n) * bytes ≤ 140737488355328) (hlen : L.length + n ≤ maxLen) (hbase : B ≤ w.heap.size) :
    ∃ v' w', (Builtin.append_ #[t, t] ty #[v, .slice p n c]).run P w = .ok v' w' ∧ Coll R size e B X w' v' (L ++ l) ∧ w.grownBy w' v.ownBlock ∧ (v'.ownBlock = v.ownBlock ∨ v'.ownBlock = some w.heap.size) := by
  obtain ⟨i, hi1, hi2⟩ := Option.map_eq_some_iff.1 hinfo
  simp only [Prod.mk.injEq] at hi2
  obtain ⟨hz, hsi, hby⟩ := hi2
  obtain ⟨xs, hown, hn, hxs⟩ := hc
  have hll := hs.len
  cases p with
  | none =>
    have h0 : n = 0 := by
      rcases Nat.eq_zero_or_pos n with h0 | h0
      · exact h0
      · obtain ⟨x, b, off, vs, _, h, _⟩ := slice_elem hs h0; cases h
    subst h0
    have : l = [] := List.eq_nil_of_length_eq_zero hll
    subst this
    exact ⟨v, w, run_append_none ht hi1 hown c, by rw [List.append_nil]; exact ⟨xs, hown, hn, hxs⟩, World.grownBy.refl w _, .inl rfl⟩
  | some a =>
    -- the source's cells
    have cell : ∀ j, j < n * size → ∃ u b off, a = ⟨b, off, none⟩ ∧ w.cell? ⟨b, off + j, none⟩ = some u ∧ u.oneCell' = true := by
      intro j hj
      have hq : j / size < n := Nat.div_lt_of_lt_mul (by rw [Nat.mul_comm]; exact hj)
      obtain ⟨x, b, off, vs, hx, hp, _, _, hr, hvl, hcell⟩ := slice_elem hs hq
      injection hp with hp
      have hm : j % size < vs.length := by rw [hvl]; exact Nat.mod_lt _ hsz
      have h1 := hcell (j % size) _ (List.getElem?_eq_getElem hm)
      have h2 : off + j / size * size + j % size = off + j := by rw [Nat.add_assoc]; congr 1; rw [Nat.mul_comm]; exact Nat.div_add_mod j size
      rw [h2] at h1
      exact ⟨_, b, off, hp, h1, hOne _ _ _ _ _ hr _ (List.getElem_mem hm)⟩
    let news : List Value := (List.range (n * size)).map fun j => (w.cell? (a.add j)).getD undef
    have hnl : news.length = n * size := by simp [news]
    have hget : ∀ j u, news[j]? = some u → w.cell? (a.add j) = some u ∧ u.oneCell' = true := by
      intro j u hu
      have hj : j < n * size := by have := lt_of_some hu; omega
      obtain ⟨u', b, off, rfl, h1, h2⟩ := cell j hj
      rw [List.getElem?_map, List.getElem?_range hj] at hu
      simp only [Option.map_some, Option.some.injEq, addr_add0, h1, Option.getD_some] at hu
      subst hu
      exact ⟨by rw [addr_add0]; exact h1, h2⟩
    obtain ⟨v', w', hr, h2, h3, h4, h5⟩ := run_append_buf (P := P) w B t ty e i z size bytes ht hi1 hz hsi hby hzs hsz v L.length xs hown a n c news hnl (fun j u hu => (hget j u hu).1)
      (fun u hu => by obtain ⟨j, hj⟩ := List.mem_iff_getElem?.1 hu; exact (hget j u hj).2) hlen hsmall hbase
    refine ⟨v', w', hr, ?_, h3, h5⟩
    have agree : ∀ lo hi, (∀ g, v.ownBlock = some g ∨ X g → g < lo ∨ hi ≤ g) → hi ≤ w.heap.size → Agree lo hi w w' := fun lo hi hd hh b k1 k2 => h3.block b (by omega) (fun e => by have := hd b (.inl e.symm); omega)
    have own : ∀ lo hi, (∀ g, v.ownBlock = some g ∨ X g → g < lo ∨ hi ≤ g) → hi ≤ w.heap.size → ∀ g, v'.ownBlock = some g ∨ X g → g < lo ∨ hi ≤ g := fun lo hi hd hh g hg => by
      rcases hg with hg | hg
      · rcases h5 with h5 | h5
        · exact hd g (.inl (h5 ▸ hg))
        · rw [h5] at hg; injection hg with hg; omega
      · exact hd g (.inr hg)
    have hsize := h3.size
    refine ⟨xs ++ news, by rw [List.length_append, hll]; exact h2, fun g hg => ?_, fun k y hk => ?_⟩
    · rcases h5 with h5 | h5
      · exact hn g (h5 ▸ hg)
      · rw [h5] at hg; injection hg with hg; rw [← hg]; exact hX
    by_cases hkl : k < L.length
    · rw [List.getElem?_append_left hkl] at hk
      obtain ⟨us, lo', hi', hr', hl', q1, q2, q3, q4⟩ := hxs k y hk
      refine ⟨us, lo', hi', hR _ _ _ _ _ _ _ _ (Nat.le_refl _) (Nat.le_refl _) (agree _ _ q3 q2) hr', hl', q1, by omega, own _ _ q3 q2, fun j u hj => ?_⟩
      have := q4 j u hj
      rw [List.getElem?_append_left (lt_of_some this)]
      exact this
    · rw [List.getElem?_append_right (by omega)] at hk
      obtain ⟨b, off, vs, hp, hb1, hb2, hr', hl', hcell⟩ := hs.get _ _ hk
      injection hp with hp
      have hkn : k - L.length < n := by have := lt_of_some hk; omega
      refine ⟨vs, lo, hi, hR _ _ _ _ _ _ _ _ (Nat.le_refl _) (Nat.le_refl _) (agree _ _ hdis hhi) hr', hl', hlo, by omega, own _ _ hdis hhi, fun j u hj => ?_⟩
      have hjs : j < size := by have := lt_of_some hj; omega
      have e1 : k * size + j = xs.length + ((k - L.length) * size + j) := by
        rw [hown.1, ← Nat.add_assoc, ← Nat.add_mul]
        congr 2; omega
      have hin : (k - L.length) * size + j < n * size := by
        have : (k - L.length) * size + size ≤ n * size := by rw [← Nat.succ_mul]; exact Nat.mul_le_mul_right _ hkn
        omega
      rw [e1, List.getElem?_append_right (by omega), Nat.add_sub_cancel_left, List.getElem?_map, List.getElem?_range hin]
      have h6 := hcell j u hj
      subst hp
      rw [Nat.add_assoc] at h6
      simp [addr_add0, h6]
/-- .. as a law of the walk -/
theorem wpList_append_many {P : Program} {w : World} {ops : Array Oper} {rest : List Oper} {o : Oper} {a : Act} {Q : Exit → Act → World → Prop} (hgd : o.guard = none) (s x : Operand) (t : TypeId)
    (ho : o.op = .call { callee := .builtin .append, args := #[s, x], argTypes := #[t, t] })
    {α : Type} {R : Rel α} {B size : Nat} {e : TypeId} {X : Nat → Prop} {v : Value} {L l : List α} (hR : Keeps R) (hOne : OneCells R) (hc : Coll R size e B X w v L) (z : Value) (bytes : Nat) (ht : P.underlying t = some (.slice e))
    (hinfo : (P.info? e).map (fun i => (i.zero, i.size, i.bytes)) = some (some z, size, bytes)) (hzs : z.cells.size = size) (hsz : 0 < size) (hs : a.eval s = v)
    {p : Option Addr} {n c lo hi : Nat} (hx : a.eval x = .slice p n c) (hl : SliceOf R size lo hi w p n c l) (hlo : B ≤ lo) (hhi : hi ≤ w.heap.size) (hdis : ∀ g, v.ownBlock = some g ∨ X g → g < lo ∨ hi ≤ g) (hX : ¬ X w.heap.size)
    (hsmall : (L.length + n) * bytes ≤ 140737488355328) (hlen : L.length + n ≤ maxLen) (hbase : B ≤ w.heap.size)
    (h : ∀ v' w', Coll R size e B X w' v' (L ++ l) → w.grownBy w' v.ownBlock → (v'.ownBlock = v.ownBlock ∨ v'.ownBlock = some w.heap.size) → wpList P ops Q rest (a.put o.dst v') w') : wpList P ops Q (o :: rest) a w := by
  refine wpList_plain hgd fun K hK => ?_
  obtain ⟨v', w', hr, h2, h3, h5⟩ := run_append_many (P := P) hR hOne hc t o.type z bytes ht hinfo hzs hsz hl hlo hhi hdis hX hsmall hlen hbase
  unfold Oper.wp execOp
  simp only [ho, resolve, invoke, builtin, Sem.run_bind, Sem.run_pure, Result.andThen_ok, List.map_toArray, List.map_cons, List.map_nil, hs, hx, hr]
  exact hK _ _ (h v' w' h2 h3 h5)
end Go.Proofs.Ytpbajggbinljiaa
