/-
  append onto an empty slice without capacity: the world that it leaves lies above.
-/
import Derived.Test.YtpbajggbinljiaaCollSet
namespace Go.Proofs.Ytpbajggbinljiaa
set_option linter.unusedVariables false
set_option linter.unusedSimpArgs false
set_option linter.unnecessarySimpa false
set_option linter.unusedSectionVars false
open Go.RowKit

/-- append of one element; where the new slice lies -/
theorem run_append_coll1 {P : Program} {w : World} {α : Type} {R : Rel α} {B size : Nat} {e : TypeId} {X : Nat → Prop} {v : Value} {L : List α} (hR : Keeps R) (hc : Coll R size e B X w v L) (t ty : TypeId) (z : Value) (bytes : Nat) (ht : P.underlying t = some (.slice e))
    (hinfo : (P.info? e).map (fun i => (i.zero, i.size, i.bytes)) = some (some z, size, bytes)) (hzs : z.cells.size = size) (hsz : 0 < size)
    (ad : Addr) (c : Nat) (vs : List Value) (el : α) (lo hi : Nat) (hel : R lo hi w el vs) (hl : vs.length = size)
    (hnews : ∀ j u, vs[j]? = some u → w.cell? (ad.add j) = some u) (h1 : ∀ u ∈ vs, u.oneCell' = true) (hlo : B ≤ lo) (hhi : hi ≤ w.heap.size) (hdis : ∀ g, v.ownBlock = some g ∨ X g → g < lo ∨ hi ≤ g) (hX : ¬ X w.heap.size)
    (hsmall : (L.length + 1) * bytes ≤ 140737488355328) (hlen : L.length + 1 ≤ maxLen) (hbase : B ≤ w.heap.size) :
    ∃ v' w', (Builtin.append_ #[t, t] ty #[v, .slice (some ad) 1 c]).run P w = .ok v' w' ∧ Coll R size e B X w' v' (L ++ [el]) ∧ w.grownBy w' v.ownBlock ∧ (v'.ownBlock = v.ownBlock ∨ v'.ownBlock = some w.heap.size) := by
  obtain ⟨i, hi1, hi2⟩ := Option.map_eq_some_iff.1 hinfo
  simp only [Prod.mk.injEq] at hi2
  obtain ⟨hz, hsi, hby⟩ := hi2
  obtain ⟨xs, hown, hn, hxs⟩ := hc
  obtain ⟨v', w', hr, h2, h3, h4, h5⟩ := run_append_buf (P := P) w B t ty e i z size bytes ht hi1 hz hsi hby hzs hsz v L.length xs hown ad 1 c vs (by omega) hnews h1 hlen hsmall hbase
  exact ⟨v', w', hr, Coll.snoc hR hown hn hxs h2 h3 h5 hX hel hl hlo hhi hdis, h3, h5⟩

theorem news_of {w : World} {α : Type} {R : Rel α} {size : Nat} (hOne : OneCells R) (hsz : 0 < size) {a : Addr} {n c lo hi : Nat} {l : List α} (hs : SliceOf R size lo hi w (some a) n c l) :
    ∃ news : List Value, news.length = n * size ∧ ∀ j u, news[j]? = some u → w.cell? (a.add j) = some u ∧ u.oneCell' = true := by
  have cell : ∀ j, j < n * size → ∃ u b off, a = ⟨b, off, none⟩ ∧ w.cell? ⟨b, off + j, none⟩ = some u ∧ u.oneCell' = true := by
    intro j hj
    have hq : j / size < n := Nat.div_lt_of_lt_mul (by rw [Nat.mul_comm]; exact hj)
    obtain ⟨x, b, off, vs, hx, hp, _, _, hr, hvl, hcell⟩ := slice_elem hs hq
    injection hp with hp
    have hm : j % size < vs.length := by rw [hvl]; exact Nat.mod_lt _ hsz
    have h1 := hcell (j % size) _ (List.getElem?_eq_getElem hm)
    have h2 : off + j / size * size + j % size = off + j := by rw [Nat.add_assoc]; congr 1; rw [Nat.mul_comm]; exact Nat.div_add_mod j size
    rw [h2] at h1
    exact ⟨_, b, off, hp, h1, hOne _ _ _ _ _ hr _ (List.getElem_mem hm)⟩
  refine ⟨(List.range (n * size)).map fun j => (w.cell? (a.add j)).getD undef, by simp, fun j u hu => ?_⟩
  have hj : j < n * size := by have := lt_of_some hu; simpa using this
  obtain ⟨u', b, off, rfl, h1, h2⟩ := cell j hj
  rw [List.getElem?_map, List.getElem?_range hj] at hu
  simp only [Option.map_some, Option.some.injEq, addr_add0, h1, Option.getD_some] at hu
  subst hu
  exact ⟨by rw [addr_add0]; exact h1, h2⟩
theorem append_empty_below {P : Program} {w w' : World} {α : Type} {R : Rel α} {size : Nat} {e : TypeId} {v' : Value} {l : List α} (hOne : OneCells R) (t ty : TypeId) (z : Value) (bytes : Nat) (ht : P.underlying t = some (.slice e))
    (hinfo : (P.info? e).map (fun i => (i.zero, i.size, i.bytes)) = some (some z, size, bytes)) (hsz : 0 < size) {g : Nat}
    {a : Addr} {n c lo hi : Nat} (hs : SliceOf R size lo hi w (some a) n c l) (hn : 0 < n) (hsmall : n * bytes ≤ 140737488355328) (hlen : n ≤ maxLen)
    (hr : (Builtin.append_ #[t, t] ty #[.slice (some ⟨g, 0, none⟩) 0 0, .slice (some a) n c]).run P w = .ok v' w') : Below w.heap.size w w' := by
  obtain ⟨i, hi1, hi2⟩ := Option.map_eq_some_iff.1 hinfo
  simp only [Prod.mk.injEq] at hi2
  obtain ⟨hz, hsi, hby⟩ := hi2
  obtain ⟨news, hnl, hget⟩ := news_of hOne hsz hs
  subst hsi hby
  have hr2 := run_append_grow (P := P) w t ty e i z ht hi1 hz ⟨g, 0, none⟩ 0 0 [] (by simp) (fun j u hu => by simp at hu) a n c news hnl (fun j u hu => (hget j u hu).1) (by omega) (by unfold maxLen at hlen; omega) (growslice_fits (by omega) (by rw [Nat.zero_add]; exact hsmall))
  rw [hr2] at hr
  injection hr with e1 e2
  rw [← e2]
  exact ((Below.refl _ _).drew).alloc (Nat.le_refl _) _
end Go.Proofs.Ytpbajggbinljiaa
