/-
  options.changes: the days from which on other recipes may apply at a place, in order.
-/
import Derived.Test.YtpbajggbinljiaaOptPlaces
namespace Go.Proofs.Ytpbajggbinljiaa
set_option linter.unusedVariables false
set_option linter.unusedSimpArgs false
set_option linter.unnecessarySimpa false
set_option linter.unusedSectionVars false
open Go.RowKit Go.Shelf
attribute [local go_sem] cell_re frozen_re size_re

/-- a recipe at a place -/
def atB (p : Int × Int) (r : Rcp) : Bool := decide (r.item = p.1) && decide (r.plant = p.2)
/-- a day at which recipes may change -/
def dayB (d : Int) : Bool := decide (0 < d) && decide (d < 1024)
def dayL (l : List Rcp) (p : Int × Int) : List Int := 0 :: (l.filter (atB p)).flatMap fun r => [r.frm, r.to].filter dayB
def changesL (S : Src) (p : Int × Int) : List Int := sortU (fun x y : Int => x < y) (dayL S.recipes p)
/-- the numbers of a list -/
def InL (l : List Int) (x : Int) : Prop := IsI64 x ∧ x ∈ l
theorem inL_add {l : List Int} {y : Int} (hy : IsI64 y) (x : Int) : (x = y ∨ InL l x) ↔ InL (l ++ [y]) x := by
  unfold InL
  simp only [List.mem_append, List.mem_singleton]
  constructor
  · rintro (rfl | ⟨h1, h2⟩)
    · exact ⟨hy, .inr rfl⟩
    · exact ⟨h1, .inl h2⟩
  · rintro ⟨h1, h2 | h2⟩
    · exact .inr ⟨h1, h2⟩
    · exact .inl h2
theorem dayL_no {l : List Rcp} {p : Int × Int} {k : Nat} {r : Rcp} (hr : l[k]? = some r) (h : atB p r = false) : dayL (l.take (k + 1)) p = dayL (l.take k) p := by
  unfold dayL; rw [take_succ_some hr, List.filter_append]; simp [h]
theorem dayL_yes {l : List Rcp} {p : Int × Int} {k : Nat} {r : Rcp} (hr : l[k]? = some r) (h : atB p r = true) : dayL (l.take (k + 1)) p = dayL (l.take k) p ++ [r.frm, r.to].filter dayB := by
  unfold dayL; rw [take_succ_some hr, List.filter_append]; simp [h]
theorem changes_all {S : Src} {p : Int × Int} (hS : ∀ r ∈ S.recipes, IsI64 r.frm ∧ IsI64 r.to) {n : Nat} (hn : S.recipes.length ≤ n) {xs : List Int} (h : AllKeys 3 (Value.int .i64) (InL (dayL (S.recipes.take n) p)) xs) :
    (xs.mergeSort fun x y => decide (x ≤ y)) = changesL S p := by
  refine mergeSort_eq intTotal h.1 (fun x => ?_) (fun x y => by simp)
  rw [h.2 x]
  unfold InL
  rw [List.take_of_length_le hn]
  constructor
  · rintro ⟨⟨_, h1⟩, _⟩; exact h1
  · intro h1
    have hok : IsI64 x := by
      unfold dayL at h1
      rcases List.mem_cons.1 h1 with rfl | h1
      · exact ⟨by omega, by omega⟩
      · obtain ⟨r, hr, hx⟩ := List.mem_flatMap.1 h1
        have hr' := hS r (List.mem_filter.1 hr).1
        have hx' := (List.mem_filter.1 hx).1
        simp at hx'
        rcases hx' with rfl | rfl
        · exact hr'.1
        · exact hr'.2
    exact ⟨⟨hok, h1⟩, intFit.made x hok⟩

set_option maxRecDepth 100000 in
theorem run_index2a (u v : Int) (w : World) : (Instr.index 95 (.agg #[.int .i64 u, .int .i64 v]) (.int .i64 (0 : Nat))).run Try.prog w = .ok (.int .i64 u) w := by
  simp [Instr.index, go_sem]
set_option maxRecDepth 100000 in
theorem run_index2b (u v : Int) (w : World) : (Instr.index 95 (.agg #[.int .i64 u, .int .i64 v]) (.int .i64 (1 : Nat))).run Try.prog w = .ok (.int .i64 v) w := by
  simp [Instr.index, go_sem]
theorem cell_new (w : World) (xs : Array Value) (t : TypeId) {j : Nat} {v : Value} (h : xs[j]? = some v) : (w.alloc (.cells xs t)).cell? ⟨w.heap.size, j, none⟩ = some v := by simp [h]
set_option maxRecDepth 100000 in
set_option maxHeartbeats 1600000 in
theorem changes_any {lo hi : Nat} {s : SrcV} {S : Src} {w : World} {p1 p2 : Int} (hs : RSrc lo hi w s S) (hhi : hi ≤ w.heap.size) (hfew : S.recipes.length ≤ 1000) (hp : IsI64 p1 ∧ IsI64 p2) :
    Calls Try.prog 36 #[.agg s.cells.toArray, .agg #[.int .i64 p1, .int .i64 p2]] w fun e w' => ∃ v, e = .returned v ∧ Coll RInt 1 3 w.heap.size noBlock w' v (changesL S (p1, p2)) ∧ Below w.heap.size w w' := by
  have hrn := hs.re.nle
  have Hr := Lib.hid hs.re.len
  have hi64 := Lib.hid (recipes_i64 hs.re)
  obtain ⟨⟨hp1, hp2⟩, hp3, hp4⟩ := hp
  obtain ⟨⟨up, un, uc⟩, ⟨ip, iN, ic⟩, ⟨pp, pn, pc⟩, ⟨mp, mn, mc⟩, ⟨op, on, oc⟩, ⟨fp, fn, fc⟩, ⟨rp, rn, rc⟩, ⟨sp, sn, sc⟩⟩ := s
  dsimp only at hrn Hr
  have hmm := @run_makeMap Try.prog
  have i0 : IsI64 0 := ⟨by omega, by omega⟩
  have h1m : 0 < maxLen := by unfold maxLen; omega
  have hset0 : KeySet 3 4 (Value.int .i64) (((w.alloc (.cells #[.slice up un uc, .slice ip iN ic, .slice pp pn pc, .slice mp mn mc, .slice op on oc, .slice fp fn fc, .slice rp rn rc, .slice sp sn sc] 31)).alloc (.cells #[.int .i64 p1, .int .i64 p2] 76)).alloc (.map #[] 0)) (w.heap.size + 1 + 1) 0 (fun _ => False) := by
    have := KeySet.made ((w.alloc (.cells #[.slice up un uc, .slice ip iN ic, .slice pp pn pc, .slice mp mn mc, .slice op on oc, .slice fp fn fc, .slice rp rn rc, .slice sp sn sc] 31)).alloc (.cells #[.int .i64 p1, .int .i64 p2] 76)) 3 4 (Value.int .i64)
    rwa [World.size_alloc, World.size_alloc] at this
  have hb0 : Below w.heap.size w (((w.alloc (.cells #[.slice up un uc, .slice ip iN ic, .slice pp pn pc, .slice mp mn mc, .slice op on oc, .slice fp fn fc, .slice rp rn rc, .slice sp sn sc] 31)).alloc (.cells #[.int .i64 p1, .int .i64 p2] 76)).alloc (.map #[] 0)) := (((Below.refl _ w).alloc (Nat.le_refl _) _).alloc (by simp) _).alloc (by simp; omega) _
  have z6 : (((w.alloc (.cells #[.slice up un uc, .slice ip iN ic, .slice pp pn pc, .slice mp mn mc, .slice op on oc, .slice fp fn fc, .slice rp rn rc, .slice sp sn sc] 31)).alloc (.cells #[.int .i64 p1, .int .i64 p2] 76)).alloc (.map #[] 0)).cell? ⟨w.heap.size, 6, none⟩ = some (.slice rp rn rc) := cell_alloc _ (cell_alloc _ (by simp))
  have z0 : (((w.alloc (.cells #[.slice up un uc, .slice ip iN ic, .slice pp pn pc, .slice mp mn mc, .slice op on oc, .slice fp fn fc, .slice rp rn rc, .slice sp sn sc] 31)).alloc (.cells #[.int .i64 p1, .int .i64 p2] 76)).alloc (.map #[] 0)).cell? ⟨w.heap.size + 1, 0, none⟩ = some (.int .i64 p1) := cell_alloc _ (by have := cell_new (w.alloc (.cells #[.slice up un uc, .slice ip iN ic, .slice pp pn pc, .slice mp mn mc, .slice op on oc, .slice fp fn fc, .slice rp rn rc, .slice sp sn sc] 31)) #[.int .i64 p1, .int .i64 p2] 76 (j := 0) rfl; rwa [World.size_alloc] at this)
  have z1 : (((w.alloc (.cells #[.slice up un uc, .slice ip iN ic, .slice pp pn pc, .slice mp mn mc, .slice op on oc, .slice fp fn fc, .slice rp rn rc, .slice sp sn sc] 31)).alloc (.cells #[.int .i64 p1, .int .i64 p2] 76)).alloc (.map #[] 0)).cell? ⟨w.heap.size + 1, 1, none⟩ = some (.int .i64 p2) := cell_alloc _ (by have := cell_new (w.alloc (.cells #[.slice up un uc, .slice ip iN ic, .slice pp pn pc, .slice mp mn mc, .slice op on oc, .slice fp fn fc, .slice rp rn rc, .slice sp sn sc] 31)) #[.int .i64 p1, .int .i64 p2] 76 (j := 1) rfl; rwa [World.size_alloc] at this)
  have hK0 : ∀ w1 : World, (((w.alloc (.cells #[.slice up un uc, .slice ip iN ic, .slice pp pn pc, .slice mp mn mc, .slice op on oc, .slice fp fn fc, .slice rp rn rc, .slice sp sn sc] 31)).alloc (.cells #[.int .i64 p1, .int .i64 p2] 76)).alloc (.map #[] 0)).grownBy w1 (some (w.heap.size + 1 + 1)) → w1.cell? ⟨w.heap.size, 6, none⟩ = some (.slice rp rn rc) ∧ w1.cell? ⟨w.heap.size + 1, 0, none⟩ = some (.int .i64 p1) ∧ w1.cell? ⟨w.heap.size + 1, 1, none⟩ = some (.int .i64 p2) ∧ Below w.heap.size w w1 := fun w1 hg =>
    ⟨hg.cell z6 (fun e => by injection e with e; dsimp only at e; omega), hg.cell z0 (fun e => by injection e with e; dsimp only at e; omega), hg.cell z1 (fun e => by injection e with e; dsimp only at e; omega), hb0.grown hg hb0.size (fun k e => by cases e; omega)⟩
  have HK0 := Lib.hid hK0
  clear hK0 hb0 z6 z0 z1
  go_enter Try.func36, Try.ntmps36
  go_wp2_with ((with_reducible show wpList _ _ _ ({ dst := _, op := Op.insert _ _ _ _, type := _, pos := _, after := _, guard := _ } :: _) _ _); refine wpList_set_insert rfl _ _ _ 94 (.inr rfl) intFit Try.underlying94 Try.underlying4 rfl hset0 h1m 0 i0 rfl rfl ?_; intro w1 hset1 hg1; obtain ⟨b6, q0, q1, hb1⟩ := HK0.out w1 hg1; have HS1 := Lib.hid hset1; clear hset1 hg1)
  clear hset0
  go_loopw [15] (fun i wr => ∃ k : Nat, k ≤ rn ∧ i = .int .i64 k ∧ Hid (KeySet 3 4 (Value.int .i64) wr (w.heap.size + 1 + 1) (2 * k + 1) (InL (dayL (S.recipes.take k) (p1, p2)))) ∧ Below w.heap.size w wr ∧ wr.cell? ⟨w.heap.size + 1, 0, none⟩ = some (.int .i64 p1) ∧ wr.cell? ⟨w.heap.size + 1, 1, none⟩ = some (.int .i64 p2)) (fun i _ => rn - (intOf i).toNat)
  case atStart =>
    refine ⟨0, Nat.zero_le _, rfl, HS1.out.congr fun x => ?_, hb1, q0, q1⟩
    simp only [or_false, InL, dayL, List.take_zero, List.filter_nil, List.flatMap_nil, List.mem_singleton]
    constructor
    · rintro rfl; exact ⟨i0, rfl⟩
    · exact fun h => h.2
  case round =>
    obtain ⟨k, hk, rfl, HS, hbr, q0, q1⟩ := hrel
    have hz := hbr.size
    have hzb := HS.out.lt
    have hzw : w.heap.size + 1 < wr.heap.size := by omega
    clear HS1 b6 hb1
    by_cases hlt : k < rn
    · obtain ⟨x, b, off, r, p', n', c', hx, hpe, hbh, hif, i1, i2, i3, i4, hc⟩ := slice_rcp (hs.re.keep RRcp.keeps (Nat.le_refl _) (Nat.le_refl _) (Agree.of_below hbr hhi)) hlt
      dsimp only at hpe
      subst hpe
      have hbw : b < wr.heap.size := by omega
      have hc := Lib.hid hc
      have Hx := Lib.hid hx
      have HI := Lib.hid hif
      clear hx hif
      have hset := fun o => HS.out.kept (World.grownBy_alloc wr o none) (by simp)
      have hkm : 2 * k + 3 < maxLen := by unfold maxLen; have := Hr.out; omega
      have I1 := Lib.hid i1
      have I2 := Lib.hid i2
      unfold IsI64 at i1 i2 i3 i4
      by_cases g1 : x.item = p1
      · by_cases g2 : x.plant = p2
        · have HY := Lib.hid (dayL_yes Hx.out (p := (p1, p2)) (by simp [atB, g1, g2]))
          have e1 : (x.item != p1) = false := by simpa using g1
          have e2 : (x.plant != p2) = false := by simpa using g2
          go_wp2_with (first | ((with_reducible show wpList _ _ _ ({ dst := _, op := Op.load 60 _, type := _, pos := _, after := _, guard := _ } :: _) _ _); refine wpList_load_agg rfl 60 _ rfl rfl Try.isAgg60 Try.sizeOf60 (rcpCells x r p' n' c') rfl hc.out ?_; unfold rcpCells) | ((with_reducible show wpList _ _ _ ({ dst := _, op := Op.store 60 _ _, type := _, pos := _, after := _, guard := _ } :: _) _ _); refine wpList_store_new rfl 60 _ _ rfl rfl rfl [.string r.item, .string r.plant, .int .i64 x.frm, .int .i64 x.to, .slice p' n' c', .slice r.inP r.inN r.inC, .slice r.outP r.outN r.outC, .int .i64 r.reworkN, .int .i64 r.reworkD, .int .i64 r.yieldN, .int .i64 r.yieldD, .int .i64 r.tolN, .int .i64 r.tolD, .int .i64 r.lead, .slice r.runP r.runN r.runC, .int .i64 x.item, .int .i64 x.plant] rfl infoRcp rfl rfl ?_))
          go_loopw [36] (fun i wi => ∃ m : Nat, m ≤ 2 ∧ i = .int .i64 m ∧ Hid (KeySet 3 4 (Value.int .i64) wi (w.heap.size + 1 + 1) (2 * k + 1 + m) (InL (dayL (S.recipes.take k) (p1, p2) ++ ([x.frm, x.to].take m).filter dayB))) ∧ Below w.heap.size w wi ∧ wi.cell? ⟨w.heap.size + 1, 0, none⟩ = some (.int .i64 p1) ∧ wi.cell? ⟨w.heap.size + 1, 1, none⟩ = some (.int .i64 p2)) (fun i _ => 2 - (intOf i).toNat)
          case atStart => exact ⟨0, by omega, rfl, (hset _).congr fun y => (by simp), hbr.alloc hz _, cell_alloc _ q0, cell_alloc _ q1⟩
          case round =>
            obtain ⟨m, hm, rfl, HSm, hbi, r0, r1⟩ := hrel
            have hzi := HSm.out.lt
            have hzi2 : w.heap.size + 1 < wr.heap.size := by omega
            clear hset HS hbr q0 q1 hbw hz hzb hzw
            match m, hm, HSm with
            | 0, hm, HSm =>
              have hkm2 : Hid (2 * k + 1 + 0 < maxLen) := by show _ < _; omega
              by_cases d1 : 0 < x.frm
              · by_cases d2 : x.frm < 1024
                · have hd : dayB x.frm = true := by simp [dayB, d1, d2]
                  have H2 := Lib.hid (inL_add (l := dayL (S.recipes.take k) (p1, p2) ++ ([x.frm, x.to].take 0).filter dayB) I1.out)
                  go_wp2_with (first | ((with_reducible show wpList _ _ _ ({ dst := _, op := Op.index _ _ _, type := _, pos := _, after := _, guard := _ } :: _) _ _); refine wpList_index_eq rfl 95 _ _ rfl rfl rfl (run_index2a _ _ _) ?_) | (at_mapUpdate; refine wpList_set_insert rfl _ _ _ 94 (.inl rfl) intFit Try.underlying94 Try.underlying4 rfl HSm.out hkm2.out x.frm I1.out rfl rfl ?_; intro w3 hset3 hg3))
                  go_roundw
                  case rel => exact ⟨1, by omega, rfl, (hset3.congr H2.out).congr fun y => (by simp [hd]), hbi.grown hg3 hbi.size (fun j e => by cases e; omega), hg3.cell r0 (fun e => by injection e with e; dsimp only at e; omega), hg3.cell r1 (fun e => by injection e with e; dsimp only at e; omega)⟩
                  case measure => simp [intOf]
                · have hd : dayB x.frm = false := by simp [dayB, d2]
                  go_wp2_with ((with_reducible show wpList _ _ _ ({ dst := _, op := Op.index _ _ _, type := _, pos := _, after := _, guard := _ } :: _) _ _); refine wpList_index_eq rfl 95 _ _ rfl rfl rfl (run_index2a _ _ _) ?_)
                  go_roundw
                  case rel => exact ⟨1, by omega, rfl, (HSm.out.mono (by omega)).congr fun y => (by simp [hd]), hbi, r0, r1⟩
                  case measure => simp [intOf]
              · have hd : dayB x.frm = false := by simp [dayB, d1]
                go_wp2_with ((with_reducible show wpList _ _ _ ({ dst := _, op := Op.index _ _ _, type := _, pos := _, after := _, guard := _ } :: _) _ _); refine wpList_index_eq rfl 95 _ _ rfl rfl rfl (run_index2a _ _ _) ?_)
                go_roundw
                case rel => exact ⟨1, by omega, rfl, (HSm.out.mono (by omega)).congr fun y => (by simp [hd]), hbi, r0, r1⟩
                case measure => simp [intOf]
            | 1, hm, HSm =>
              have e21 : ([x.frm, x.to].take 2).filter dayB = ([x.frm, x.to].take 1).filter dayB ++ [x.to].filter dayB := by rw [← List.filter_append]; rfl
              have hkm2 : Hid (2 * k + 1 + 1 < maxLen) := by show _ < _; omega
              by_cases d1 : 0 < x.to
              · by_cases d2 : x.to < 1024
                · have hd : dayB x.to = true := by simp [dayB, d1, d2]
                  have H2 := Lib.hid (inL_add (l := dayL (S.recipes.take k) (p1, p2) ++ ([x.frm, x.to].take 1).filter dayB) I2.out)
                  go_wp2_with (first | ((with_reducible show wpList _ _ _ ({ dst := _, op := Op.index _ _ _, type := _, pos := _, after := _, guard := _ } :: _) _ _); refine wpList_index_eq rfl 95 _ _ rfl rfl rfl (run_index2b _ _ _) ?_) | (at_mapUpdate; refine wpList_set_insert rfl _ _ _ 94 (.inl rfl) intFit Try.underlying94 Try.underlying4 rfl HSm.out hkm2.out x.to I2.out rfl rfl ?_; intro w3 hset3 hg3))
                  go_roundw
                  case rel => exact ⟨2, by omega, rfl, (hset3.congr H2.out).congr fun y => (by rw [e21]; simp [hd, List.append_assoc]), hbi.grown hg3 hbi.size (fun j e => by cases e; omega), hg3.cell r0 (fun e => by injection e with e; dsimp only at e; omega), hg3.cell r1 (fun e => by injection e with e; dsimp only at e; omega)⟩
                  case measure => simp [intOf]
                · have hd : dayB x.to = false := by simp [dayB, d2]
                  go_wp2_with ((with_reducible show wpList _ _ _ ({ dst := _, op := Op.index _ _ _, type := _, pos := _, after := _, guard := _ } :: _) _ _); refine wpList_index_eq rfl 95 _ _ rfl rfl rfl (run_index2b _ _ _) ?_)
                  go_roundw
                  case rel => exact ⟨2, by omega, rfl, (HSm.out.mono (by omega)).congr fun y => (by rw [e21]; simp [hd, List.append_assoc]), hbi, r0, r1⟩
                  case measure => simp [intOf]
              · have hd : dayB x.to = false := by simp [dayB, d1]
                go_wp2_with ((with_reducible show wpList _ _ _ ({ dst := _, op := Op.index _ _ _, type := _, pos := _, after := _, guard := _ } :: _) _ _); refine wpList_index_eq rfl 95 _ _ rfl rfl rfl (run_index2b _ _ _) ?_)
                go_roundw
                case rel => exact ⟨2, by omega, rfl, (HSm.out.mono (by omega)).congr fun y => (by rw [e21]; simp [hd, List.append_assoc]), hbi, r0, r1⟩
                case measure => simp [intOf]
            | 2, hm, HSm =>
              go_wp2_with fail
              go_roundw
              case rel => exact ⟨k + 1, by omega, by go_num, (HSm.out.mono (by omega)).congr fun y => (by rw [HY.out]; simp), hbi, r0, r1⟩
              case measure => simp [intOf]; omega
        · have HY := Lib.hid (dayL_no Hx.out (p := (p1, p2)) (by simp [atB, g2]))
          have e1 : (x.item != p1) = false := by simpa using g1
          have e2 : (x.plant != p2) = true := by simpa using g2
          go_wp2_with (first | ((with_reducible show wpList _ _ _ ({ dst := _, op := Op.load 60 _, type := _, pos := _, after := _, guard := _ } :: _) _ _); refine wpList_load_agg rfl 60 _ rfl rfl Try.isAgg60 Try.sizeOf60 (rcpCells x r p' n' c') rfl hc.out ?_; unfold rcpCells) | ((with_reducible show wpList _ _ _ ({ dst := _, op := Op.store 60 _ _, type := _, pos := _, after := _, guard := _ } :: _) _ _); refine wpList_store_new rfl 60 _ _ rfl rfl rfl [.string r.item, .string r.plant, .int .i64 x.frm, .int .i64 x.to, .slice p' n' c', .slice r.inP r.inN r.inC, .slice r.outP r.outN r.outC, .int .i64 r.reworkN, .int .i64 r.reworkD, .int .i64 r.yieldN, .int .i64 r.yieldD, .int .i64 r.tolN, .int .i64 r.tolD, .int .i64 r.lead, .slice r.runP r.runN r.runC, .int .i64 x.item, .int .i64 x.plant] rfl infoRcp rfl rfl ?_))
          go_roundw
          case rel => exact ⟨k + 1, by omega, by go_num, ((hset _).mono (by omega)).congr fun y => (by rw [HY.out]), hbr.alloc hz _, cell_alloc _ q0, cell_alloc _ q1⟩
          case measure => simp [intOf]; omega
      · have HY := Lib.hid (dayL_no Hx.out (p := (p1, p2)) (by simp [atB, g1]))
        have e1 : (x.item != p1) = true := by simpa using g1
        go_wp2_with (first | ((with_reducible show wpList _ _ _ ({ dst := _, op := Op.load 60 _, type := _, pos := _, after := _, guard := _ } :: _) _ _); refine wpList_load_agg rfl 60 _ rfl rfl Try.isAgg60 Try.sizeOf60 (rcpCells x r p' n' c') rfl hc.out ?_; unfold rcpCells) | ((with_reducible show wpList _ _ _ ({ dst := _, op := Op.store 60 _ _, type := _, pos := _, after := _, guard := _ } :: _) _ _); refine wpList_store_new rfl 60 _ _ rfl rfl rfl [.string r.item, .string r.plant, .int .i64 x.frm, .int .i64 x.to, .slice p' n' c', .slice r.inP r.inN r.inC, .slice r.outP r.outN r.outC, .int .i64 r.reworkN, .int .i64 r.reworkD, .int .i64 r.yieldN, .int .i64 r.yieldD, .int .i64 r.tolN, .int .i64 r.tolD, .int .i64 r.lead, .slice r.runP r.runN r.runC, .int .i64 x.item, .int .i64 x.plant] rfl infoRcp rfl rfl ?_))
        go_roundw
        case rel => exact ⟨k + 1, by omega, by go_num, ((hset _).mono (by omega)).congr fun y => (by rw [HY.out]), hbr.alloc hz _, cell_alloc _ q0, cell_alloc _ q1⟩
        case measure => simp [intOf]; omega
    · have hkr : k = rn := by omega
      subst hkr
      have hlen := Hr.out
      clear hs
      go_wp2_with fail
      refine (keysI_any _ wr).mono ?_
      rintro e w2 ⟨rfl, hw2⟩
      have hb2 : Below wr.heap.size wr w2 := by rw [hw2]; exact (Below.refl _ _).alloc (Nat.le_refl _) _
      have c2 : w2.cell? ⟨wr.heap.size, 0, none⟩ = some (.map (some (w.heap.size + 1 + 1))) := by rw [hw2]; simp
      have hz2 : w2.heap.size = wr.heap.size + 1 := by rw [hw2]; simp
      clear hw2
      have HS2 := Lib.hid (HS.out.block (hb2.block _ hzb))
      go_wp2_with fail
      refine (sortedI_any c2 HS2.out (by omega) (by omega) (by omega)).mono ?_
      rintro e w3 ⟨xs, v, hxs, rfl, hcol, hb3⟩
      rw [changes_all (fun r hr => ⟨(hi64.out r hr).2.2.1, (hi64.out r hr).2.2.2⟩) (by omega) hxs] at hcol
      go_wp2_with fail
      go_ret
      exact ⟨v, rfl, hcol.weak (by omega) (fun _ h => h), (hbr.trans (hb2.mono hz)).trans (hb3.mono (by omega))⟩
end Go.Proofs.Ytpbajggbinljiaa
