/-
  options.places, options.changes: the places at which a recipe makes something, in order; the days from which on other recipes may apply, in order.
-/
import Derived.Test.YtpbajggbinljiaaOptSortP
import Derived.Test.YtpbajggbinljiaaOptSorted
import Derived.Test.YtpbajggbinljiaaSortU
import Derived.Test.YtpbajggbinljiaaMemAgg
namespace Go.Proofs.Ytpbajggbinljiaa
set_option linter.unusedVariables false
set_option linter.unusedSimpArgs false
set_option linter.unnecessarySimpa false
set_option linter.unusedSectionVars false
open Go.RowKit Go.Shelf
attribute [local go_sem] cell_re frozen_re size_re

/-- A recipe of a slice: its seventeen cells. -/
theorem slice_rcp {lo hi : Nat} {w : World} {q : Option Addr} {m c : Nat} {l : List Rcp} (h : SliceOf RRcp 17 lo hi w q m c l) {k : Nat} (hk : k < m) :
    ∃ (x : Rcp) (b off : Nat) (r : RcpRest) (p : Option Addr) (n cap : Nat), l[k]? = some x ∧ q = some ⟨b, off, none⟩ ∧ b < hi ∧ SliceOf RCnd 4 lo hi w p n cap x.ifs ∧ IsI64 x.frm ∧ IsI64 x.to ∧ IsI64 x.item ∧ IsI64 x.plant ∧
      ∀ j u, (rcpCells x r p n cap)[j]? = some u → w.cell? ⟨b, off + k * 17 + j, none⟩ = some u := by
  obtain ⟨x, b, off, vs, hx, hp, h1, h2, ⟨r, p, n, cap, rfl, hs, i1, i2, i3, i4⟩, _, hc⟩ := slice_elem h hk
  exact ⟨x, b, off, r, p, n, cap, hx, hp, h2, hs, i1, i2, i3, i4, hc⟩
theorem infoRcp : (Try.prog.info? 60).map (·.size) = some 17 := by kernel_rfl

theorem placeTotal : StrictTotal ltP := ⟨fun x => by unfold ltP; omega, fun x y z => by unfold ltP; omega, fun x y h1 h2 => by unfold ltP at *; exact Prod.ext (by omega) (by omega)⟩

/-- a recipe makes an item of the source at a plant of the source -/
def rangeB (S : Src) (r : Rcp) : Bool := decide (0 ≤ r.item) && decide (r.item < (S.items : Int)) && decide (0 ≤ r.plant) && decide (r.plant < (S.plants : Int))
def placeOf (r : Rcp) : Int × Int := (r.item, r.plant)
def placesL (S : Src) : List (Int × Int) := sortU ltP ((S.recipes.filter (rangeB S)).map placeOf)
/-- the places of the first k recipes -/
def PlacesTo (S : Src) (k : Nat) (x : Int × Int) : Prop := OkP x ∧ x ∈ ((S.recipes.take k).filter (rangeB S)).map placeOf
theorem places_no {S : Src} {k : Nat} {r : Rcp} (hr : S.recipes[k]? = some r) (h : rangeB S r = false) (x : Int × Int) : PlacesTo S k x ↔ PlacesTo S (k + 1) x := by
  unfold PlacesTo; rw [take_succ_some hr, List.filter_append]; simp [h]
theorem places_yes {S : Src} {k : Nat} {r : Rcp} (hr : S.recipes[k]? = some r) (h : rangeB S r = true) (hok : OkP (placeOf r)) (x : Int × Int) : (x = placeOf r ∨ PlacesTo S k x) ↔ PlacesTo S (k + 1) x := by
  unfold PlacesTo; rw [take_succ_some hr, List.filter_append, List.map_append]
  simp only [List.filter_cons, h, if_true, List.filter_nil, List.map_cons, List.map_nil, List.mem_append, List.mem_singleton]
  constructor
  · rintro (rfl | ⟨h1, h2⟩)
    · exact ⟨hok, .inr rfl⟩
    · exact ⟨h1, .inl h2⟩
  · rintro ⟨h1, h2 | h2⟩
    · exact .inr ⟨h1, h2⟩
    · exact .inl h2
theorem places_all {S : Src} (hS : ∀ r ∈ S.recipes, IsI64 r.item ∧ IsI64 r.plant) {n : Nat} (hn : S.recipes.length ≤ n) {xs : List (Int × Int)} (h : AllKeys 76 placeV (PlacesTo S n) xs) :
    (xs.mergeSort fun x y => !decide (ltP y x)) = placesL S := by
  refine mergeSort_eq placeTotal h.1 (fun x => ?_) (fun x y => by simp)
  rw [h.2 x]
  unfold PlacesTo
  rw [List.take_of_length_le hn]
  constructor
  · rintro ⟨⟨_, h1⟩, _⟩; exact h1
  · intro h1
    have hok : OkP x := by
      obtain ⟨r, hr, rfl⟩ := List.mem_map.1 h1
      exact hS r (List.mem_filter.1 hr).1
    exact ⟨⟨hok, h1⟩, placeFit.made x hok⟩
theorem recipes_i64 {lo hi : Nat} {w : World} {q : Option Addr} {m c : Nat} {l : List Rcp} (h : SliceOf RRcp 17 lo hi w q m c l) : ∀ r ∈ l, IsI64 r.item ∧ IsI64 r.plant ∧ IsI64 r.frm ∧ IsI64 r.to := by
  intro r hr
  obtain ⟨i, hi, e⟩ := List.getElem_of_mem hr
  obtain ⟨x, b, off, r', p, n, cap, hx, _, _, _, i1, i2, i3, i4, _⟩ := slice_rcp h (k := i) (by rw [← h.len]; exact hi)
  rw [List.getElem?_eq_getElem hi, e] at hx
  injection hx with hx
  subst hx
  exact ⟨i3, i4, i1, i2⟩

set_option maxHeartbeats 1600000 in
theorem places_any {lo hi : Nat} {s : SrcV} {S : Src} {w : World} (hs : RSrc lo hi w s S) (hhi : hi ≤ w.heap.size) (hfew : S.recipes.length ≤ 4096) :
    Calls Try.prog 35 #[.agg s.cells.toArray] w fun e w' => ∃ v, e = .returned v ∧ Coll RPlace 2 76 w.heap.size noBlock w' v (placesL S) ∧ Below w.heap.size w w' := by
  have hrn := hs.re.nle
  have Hr := Lib.hid hs.re.len
  have hi64 := Lib.hid (recipes_i64 hs.re)
  have hit := hs.it
  have hpl := hs.pl
  obtain ⟨⟨up, un, uc⟩, ⟨ip, iN, ic⟩, ⟨pp, pn, pc⟩, ⟨mp, mn, mc⟩, ⟨op, on, oc⟩, ⟨fp, fn, fc⟩, ⟨rp, rn, rc⟩, ⟨sp, sn, sc⟩⟩ := s
  dsimp only at hrn Hr hit hpl
  obtain ⟨rfl, hit2⟩ := hit
  obtain ⟨rfl, hpl2⟩ := hpl
  have hmm := @run_makeMap Try.prog
  go_enter Try.func35, Try.ntmps35
  go_wp2_with fail
  go_loopw [10] (fun i wr => ∃ k : Nat, k ≤ rn ∧ i = .int .i64 k ∧ Hid (KeySet 76 4 placeV wr (w.heap.size + 1) k (PlacesTo S k)) ∧ Below w.heap.size w wr ∧ Hid (∀ j, wr.cell? ⟨w.heap.size, j, none⟩ = (SrcV.cells ⟨⟨up, un, uc⟩, ⟨ip, S.items, ic⟩, ⟨pp, S.plants, pc⟩, ⟨mp, mn, mc⟩, ⟨op, on, oc⟩, ⟨fp, fn, fc⟩, ⟨rp, rn, rc⟩, ⟨sp, sn, sc⟩⟩)[j]?)) (fun i _ => rn - (intOf i).toNat)
  case atStart =>
    refine ⟨0, Nat.zero_le _, rfl, ?_, ((Below.refl _ w).alloc (Nat.le_refl _) _).alloc (by simp) _, fun j => by simp⟩
    have := KeySet.made (w.alloc (.cells (SrcV.cells ⟨⟨up, un, uc⟩, ⟨ip, S.items, ic⟩, ⟨pp, S.plants, pc⟩, ⟨mp, mn, mc⟩, ⟨op, on, oc⟩, ⟨fp, fn, fc⟩, ⟨rp, rn, rc⟩, ⟨sp, sn, sc⟩⟩).toArray 31)) 76 4 placeV
    rw [World.size_alloc] at this
    exact this.congr fun x => by simp [PlacesTo]
  case round =>
    obtain ⟨k, hk, rfl, HS, hbr, Hbx⟩ := hrel
    have hz := hbr.size
    have hzb := HS.out.lt
    have hzw : w.heap.size < wr.heap.size := by omega
    have b1 : wr.cell? ⟨w.heap.size, 1, none⟩ = some (.slice ip S.items ic) := Hbx.out 1
    have b2 : wr.cell? ⟨w.heap.size, 2, none⟩ = some (.slice pp S.plants pc) := Hbx.out 2
    by_cases hlt : k < rn
    · obtain ⟨x, b, off, r, p', n', c', hx, hp, hbh, hif, i1, i2, i3, i4, hc⟩ := slice_rcp (hs.re.keep RRcp.keeps (Nat.le_refl _) (Nat.le_refl _) (Agree.of_below hbr hhi)) hlt
      dsimp only at hp
      subst hp
      have hbw : b < wr.heap.size := by omega
      have hc := Lib.hid hc
      have Hx := Lib.hid hx
      have HI := Lib.hid hif
      clear hx hif
      have hset := fun o => HS.out.kept (World.grownBy_alloc wr o none) (by simp)
      have hkm : k < maxLen := by unfold maxLen; have := Hr.out; omega
      have hok : OkP (x.item, x.plant) := ⟨i3, i4⟩
      unfold IsI64 at i1 i2 i3 i4
      have no : ∀ {o : Obj}, rangeB S x = false → Hid (KeySet 76 4 placeV (wr.alloc o) (w.heap.size + 1) (k + 1) (PlacesTo S (k + 1))) := fun {o} h => ((hset o).mono (by omega)).congr (places_no Hx.out h)
      by_cases g1 : 0 ≤ x.item
      · by_cases g2 : x.item < (S.items : Int)
        · by_cases g3 : 0 ≤ x.plant
          · by_cases g4 : x.plant < (S.plants : Int)
            · have HY := Lib.hid (places_yes Hx.out (by simp [rangeB, g1, g3, g2, g4]) hok)
              clear no
              go_wp2_with (first | ((with_reducible show wpList _ _ _ ({ dst := _, op := Op.load 60 _, type := _, pos := _, after := _, guard := _ } :: _) _ _); refine wpList_load_agg rfl 60 _ rfl rfl Try.isAgg60 Try.sizeOf60 (rcpCells x r p' n' c') rfl hc.out ?_; unfold rcpCells) | ((with_reducible show wpList _ _ _ ({ dst := _, op := Op.store 60 _ _, type := _, pos := _, after := _, guard := _ } :: _) _ _); refine wpList_store_new rfl 60 _ _ rfl rfl rfl [.string r.item, .string r.plant, .int .i64 x.frm, .int .i64 x.to, .slice p' n' c', .slice r.inP r.inN r.inC, .slice r.outP r.outN r.outC, .int .i64 r.reworkN, .int .i64 r.reworkD, .int .i64 r.yieldN, .int .i64 r.yieldD, .int .i64 r.tolN, .int .i64 r.tolD, .int .i64 r.lead, .slice r.runP r.runN r.runC, .int .i64 x.item, .int .i64 x.plant] rfl infoRcp rfl rfl ?_) | (at_mapUpdate; refine wpList_set_insert rfl _ _ _ 86 (.inl rfl) placeFit Try.underlying86 Try.underlying4 rfl (hset _) hkm (x.item, x.plant) hok rfl rfl ?_; intro w3 hset3 hg3))
              have hg4 := (World.grownBy_alloc wr _ (some (w.heap.size + 1))).trans hg3
              go_roundw
              case rel => exact ⟨k + 1, by omega, by go_num, hset3.congr HY.out, hbr.grown hg4 hbr.size (fun j e => by cases e; omega), fun j => (World.cell?_of_block (a := ⟨w.heap.size, j, none⟩) (hg4.block _ hzw (by simp))).trans (Hbx.out j)⟩
              case measure => simp [intOf]; omega
            · have HS1 := fun o => no (o := o) (by simp [rangeB, g4])
              clear no hset
              go_wp2_with (first | ((with_reducible show wpList _ _ _ ({ dst := _, op := Op.load 60 _, type := _, pos := _, after := _, guard := _ } :: _) _ _); refine wpList_load_agg rfl 60 _ rfl rfl Try.isAgg60 Try.sizeOf60 (rcpCells x r p' n' c') rfl hc.out ?_; unfold rcpCells) | ((with_reducible show wpList _ _ _ ({ dst := _, op := Op.store 60 _ _, type := _, pos := _, after := _, guard := _ } :: _) _ _); refine wpList_store_new rfl 60 _ _ rfl rfl rfl [.string r.item, .string r.plant, .int .i64 x.frm, .int .i64 x.to, .slice p' n' c', .slice r.inP r.inN r.inC, .slice r.outP r.outN r.outC, .int .i64 r.reworkN, .int .i64 r.reworkD, .int .i64 r.yieldN, .int .i64 r.yieldD, .int .i64 r.tolN, .int .i64 r.tolD, .int .i64 r.lead, .slice r.runP r.runN r.runC, .int .i64 x.item, .int .i64 x.plant] rfl infoRcp rfl rfl ?_))
              go_roundw
              case rel => exact ⟨k + 1, by omega, by go_num, (HS1 _).out, hbr.alloc hbr.size _, fun j => (World.cell?_of_block (a := ⟨w.heap.size, j, none⟩) (Below.heap_alloc _ _ _ hzw)).trans (Hbx.out j)⟩
              case measure => simp [intOf]; omega
          · have HS1 := fun o => no (o := o) (by simp [rangeB, g3])
            clear no hset
            go_wp2_with (first | ((with_reducible show wpList _ _ _ ({ dst := _, op := Op.load 60 _, type := _, pos := _, after := _, guard := _ } :: _) _ _); refine wpList_load_agg rfl 60 _ rfl rfl Try.isAgg60 Try.sizeOf60 (rcpCells x r p' n' c') rfl hc.out ?_; unfold rcpCells) | ((with_reducible show wpList _ _ _ ({ dst := _, op := Op.store 60 _ _, type := _, pos := _, after := _, guard := _ } :: _) _ _); refine wpList_store_new rfl 60 _ _ rfl rfl rfl [.string r.item, .string r.plant, .int .i64 x.frm, .int .i64 x.to, .slice p' n' c', .slice r.inP r.inN r.inC, .slice r.outP r.outN r.outC, .int .i64 r.reworkN, .int .i64 r.reworkD, .int .i64 r.yieldN, .int .i64 r.yieldD, .int .i64 r.tolN, .int .i64 r.tolD, .int .i64 r.lead, .slice r.runP r.runN r.runC, .int .i64 x.item, .int .i64 x.plant] rfl infoRcp rfl rfl ?_))
            go_roundw
            case rel => exact ⟨k + 1, by omega, by go_num, (HS1 _).out, hbr.alloc hbr.size _, fun j => (World.cell?_of_block (a := ⟨w.heap.size, j, none⟩) (Below.heap_alloc _ _ _ hzw)).trans (Hbx.out j)⟩
            case measure => simp [intOf]; omega
        · have HS1 := fun o => no (o := o) (by simp [rangeB, g2])
          clear no hset
          go_wp2_with (first | ((with_reducible show wpList _ _ _ ({ dst := _, op := Op.load 60 _, type := _, pos := _, after := _, guard := _ } :: _) _ _); refine wpList_load_agg rfl 60 _ rfl rfl Try.isAgg60 Try.sizeOf60 (rcpCells x r p' n' c') rfl hc.out ?_; unfold rcpCells) | ((with_reducible show wpList _ _ _ ({ dst := _, op := Op.store 60 _ _, type := _, pos := _, after := _, guard := _ } :: _) _ _); refine wpList_store_new rfl 60 _ _ rfl rfl rfl [.string r.item, .string r.plant, .int .i64 x.frm, .int .i64 x.to, .slice p' n' c', .slice r.inP r.inN r.inC, .slice r.outP r.outN r.outC, .int .i64 r.reworkN, .int .i64 r.reworkD, .int .i64 r.yieldN, .int .i64 r.yieldD, .int .i64 r.tolN, .int .i64 r.tolD, .int .i64 r.lead, .slice r.runP r.runN r.runC, .int .i64 x.item, .int .i64 x.plant] rfl infoRcp rfl rfl ?_))
          go_roundw
          case rel => exact ⟨k + 1, by omega, by go_num, (HS1 _).out, hbr.alloc hbr.size _, fun j => (World.cell?_of_block (a := ⟨w.heap.size, j, none⟩) (Below.heap_alloc _ _ _ hzw)).trans (Hbx.out j)⟩
          case measure => simp [intOf]; omega
      · have HS1 := fun o => no (o := o) (by simp [rangeB, g1])
        clear no hset
        go_wp2_with (first | ((with_reducible show wpList _ _ _ ({ dst := _, op := Op.load 60 _, type := _, pos := _, after := _, guard := _ } :: _) _ _); refine wpList_load_agg rfl 60 _ rfl rfl Try.isAgg60 Try.sizeOf60 (rcpCells x r p' n' c') rfl hc.out ?_; unfold rcpCells) | ((with_reducible show wpList _ _ _ ({ dst := _, op := Op.store 60 _ _, type := _, pos := _, after := _, guard := _ } :: _) _ _); refine wpList_store_new rfl 60 _ _ rfl rfl rfl [.string r.item, .string r.plant, .int .i64 x.frm, .int .i64 x.to, .slice p' n' c', .slice r.inP r.inN r.inC, .slice r.outP r.outN r.outC, .int .i64 r.reworkN, .int .i64 r.reworkD, .int .i64 r.yieldN, .int .i64 r.yieldD, .int .i64 r.tolN, .int .i64 r.tolD, .int .i64 r.lead, .slice r.runP r.runN r.runC, .int .i64 x.item, .int .i64 x.plant] rfl infoRcp rfl rfl ?_))
        go_roundw
        case rel => exact ⟨k + 1, by omega, by go_num, (HS1 _).out, hbr.alloc hbr.size _, fun j => (World.cell?_of_block (a := ⟨w.heap.size, j, none⟩) (Below.heap_alloc _ _ _ hzw)).trans (Hbx.out j)⟩
        case measure => simp [intOf]; omega
    · have hkr : k = rn := by omega
      subst hkr
      have hlen := Hr.out
      clear hs
      go_wp2_with fail
      refine (keysP_any _ wr).mono ?_
      rintro e w2 ⟨rfl, hw2⟩
      have hb2 : Below wr.heap.size wr w2 := by rw [hw2]; exact (Below.refl _ _).alloc (Nat.le_refl _) _
      have c2 : w2.cell? ⟨wr.heap.size, 0, none⟩ = some (.map (some (w.heap.size + 1))) := by rw [hw2]; simp
      have hz2 : w2.heap.size = wr.heap.size + 1 := by rw [hw2]; simp
      clear hw2
      have HS2 := Lib.hid (HS.out.block (hb2.block _ hzb))
      go_wp2_with fail
      refine (sortedP_any c2 HS2.out (by omega) (by omega) (by omega)).mono ?_
      rintro e w3 ⟨xs, v, hxs, rfl, hcol, hb3⟩
      rw [places_all (fun r hr => ⟨(hi64.out r hr).1, (hi64.out r hr).2.1⟩) (by omega) hxs] at hcol
      go_wp2_with fail
      go_ret
      exact ⟨v, rfl, hcol.weak (by omega) (fun _ h => h), (hbr.trans (hb2.mono hz)).trans (hb3.mono (by omega))⟩
end Go.Proofs.Ytpbajggbinljiaa
