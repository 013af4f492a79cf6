/-
  backflushlaw13.sample: the source of the chapter's examples.
-/
import Derived.Test.YtpbajggbinljiaaOptSameHole
import Derived.Test.YtpbajggbinljiaaRel
namespace Go.Proofs.Ytpbajggbinljiaa
set_option linter.unusedVariables false
set_option linter.unusedSimpArgs false
set_option linter.unnecessarySimpa false
set_option linter.unusedSectionVars false
open Go.RowKit Go.Shelf

def emptyS : Value := .string ⟨#[]⟩
theorem results_cell1 {fn : Func} {p : Tmp} {ty : TypeId} (h : fn.results = #[.cell p ty]) (tmps : Array Value) (P : Program) (w : World) :
    (results fn tmps).run P w = ((asAddr (tmps.getD p undef)).run P w).andThen fun a w₁ => (loadVar ty a).run P w₁ := by
  simp only [results, h]
  simp [Sem.run_bind, Result.andThen]
theorem agg_result {fn : Func} {p : Tmp} {ty : TypeId} {tmps : Array Value} {W : World} {b k : Nat} (h : fn.results = #[.cell p ty]) (h2 : tmps.getD p undef = .pointer (some ⟨b, 0, none⟩)) (hA : ∀ w, (isAgg ty).run Try.prog w = .ok true w) (hZ : ∀ w, (sizeOf ty).run Try.prog w = .ok k w)
    (vs : List Value) (hl : vs.length = k) (hc : ∀ j u, vs[j]? = some u → W.cell? ⟨b, j, none⟩ = some u) : (results fn tmps).run Try.prog W = .ok (.agg vs.toArray) W := by
  rw [results_cell1 h, h2]
  have h := run_loadAt_agg (P := Try.prog) (w := W) (t := ty) (b := b) (off := 0) hA hZ vs hl (fun j u hj => by rw [Nat.zero_add]; exact hc j u hj)
  simp only [Instr.loadAt, Instr.sureAddr, Sem.run_bind, Sem.run_pure, Result.andThen] at h
  simp only [asAddr, Sem.run_pure, Result.andThen, h]
set_option maxHeartbeats 400000 in
theorem sample1_any (o c : Int) (w : World) :
    Calls Try.prog 38 #[.int .i64 o, .int .i64 c] w fun e w' => e = .returned (.agg #[emptyS, emptyS, .int .i64 o, .int .i64 c]) ∧ Below w.heap.size w w' := by
  go_enter Try.func38, Try.ntmps38
  go_wp2_with fail
  refine bodyPost_ret (agg_result (b := w.heap.size) rfl rfl Try.isAgg79 Try.sizeOf79 [emptyS, emptyS, .int .i64 o, .int .i64 c] rfl (fun j u hj => by simpa [emptyS] using hj)) rfl ?_
  exact ⟨rfl, (Below.refl _ _).alloc (Nat.le_refl _) _⟩
/-- new slices -/
theorem slice_alloc {α : Type} {R : Rel α} {sz lo : Nat} {w : World} {t : TypeId} (l : List α) (vss : List (List Value)) (hl : l.length = vss.length) (hm : l.length ≤ 9223372036854775807) (hsz : ∀ vs ∈ vss, vs.length = sz) (hlo : lo ≤ w.heap.size)
    (hR : ∀ (i : Nat) (x : α) (vs : List Value), l[i]? = some x → vss[i]? = some vs → R lo (w.heap.size + 1) (w.alloc (.cells vss.flatten.toArray t)) x vs) :
    SliceOf R sz lo (w.heap.size + 1) (w.alloc (.cells vss.flatten.toArray t)) (some ⟨w.heap.size, 0, none⟩) l.length l.length l := by
  refine ⟨rfl, Nat.le_refl _, hm, fun i x hx => ?_⟩
  have hi := lt_of_some hx
  have hv : vss[i]? = some vss[i] := List.getElem?_eq_getElem (by omega)
  refine ⟨w.heap.size, 0, vss[i], rfl, hlo, by omega, hR i x _ hx hv, hsz _ (List.getElem_mem _), fun j u hu => ?_⟩
  have hcell : (w.alloc (.cells vss.flatten.toArray t)).cell? ⟨w.heap.size, 0 + i * sz + j, none⟩ = vss.flatten[0 + i * sz + j]? := by simp
  rw [hcell, Nat.zero_add]
  have key : ∀ (vss : List (List Value)) (i : Nat) (vs : List Value), (∀ vs ∈ vss, vs.length = sz) → vss[i]? = some vs → ∀ j u, vs[j]? = some u → vss.flatten[i * sz + j]? = some u := by
    intro vss
    induction vss with
    | nil => intro i vs _ h; simp at h
    | cons v vss ih =>
      intro i vs hsz h j u hu
      have hv := hsz v (by simp)
      match i with
      | 0 =>
        simp only [List.getElem?_cons_zero, Option.some.injEq] at h
        subst h
        rw [List.flatten_cons, Nat.zero_mul, Nat.zero_add, List.getElem?_append_left (lt_of_some hu)]
        exact hu
      | i + 1 =>
        rw [List.flatten_cons, List.getElem?_append_right (by rw [hv, Nat.add_mul]; omega), hv]
        have := ih i vs (fun x hx => hsz x (by simp [hx])) (by simpa using h) j u hu
        rw [← this]
        congr 1
        rw [Nat.add_mul]; omega
  exact key vss i _ hsz hv j u hu

def sampleS : Src := ⟨[3, 3], [[⟨0, 1⟩, ⟨1, 2⟩], [⟨0, 2⟩, ⟨1, 2⟩]], [⟨0, 1024, [⟨0, 0⟩], 0, 0⟩, ⟨0, 1024, [⟨0, 1⟩], 0, 0⟩, ⟨0, 7, [⟨0, 2⟩], 0, 0⟩, ⟨7, 1024, [⟨0, 2⟩], 0, 0⟩], 2, 1⟩
def restE : RcpRest := ⟨⟨#[]⟩, ⟨#[]⟩, none, 0, 0, none, 0, 0, 0, 0, 0, 0, 0, 0, 0, none, 0, 0⟩
/-- the result is laid in block B -/
def Stored (B : Nat) (w : World) : Prop := ∃ s : SrcV, RSrc (B + 1) w.heap.size w s sampleS ∧ Own w B 31 s.cells
/-- block B has a source's eight cells -/
def Shape (B : Nat) (w : World) : Prop := ∃ xs : List Value, xs.length = 8 ∧ Own w B 31 xs
def LeS (B : Nat) (a b : World) : Prop := (Stored B a → Stored B b) ∧ a.grownBy b (some B) ∧ (Shape B a → Shape B b)
theorem LeS.refl (B : Nat) (a : World) : LeS B a a := ⟨id, ⟨rfl, rfl, rfl, Nat.le_refl _, fun _ _ _ => rfl⟩, id⟩
theorem LeS.trans {B : Nat} {a b c : World} (h : LeS B a b) (k : LeS B b c) : LeS B a c := ⟨fun x => k.1 (h.1 x), h.2.1.trans k.2.1, fun x => k.2.2 (h.2.2 x)⟩
theorem LeS.lt {B : Nat} {a b : World} (h : LeS B a b) (hB : B < a.heap.size) : B + 1 ≤ b.heap.size := Nat.lt_of_lt_of_le hB h.2.1.size
theorem LeS.agree {B : Nat} {a b : World} (h : LeS B a b) : Agree (B + 1) a.heap.size a b := fun k h1 h2 => h.2.1.block k h2 (fun e => by injection e with e; omega)
theorem LeS.below {B : Nat} {a b : World} (h : Below a.heap.size a b) : LeS B a b :=
  ⟨fun ⟨s, hs, ho⟩ => ⟨s, hs.keep (Nat.le_refl _) h.size (Agree.of_below h (Nat.le_refl _)), ho.below h ho.lt⟩, grown_of_below h _, fun ⟨xs, hx, ho⟩ => ⟨xs, hx, ho.below h ho.lt⟩⟩
theorem LeS.alloc (B : Nat) (a : World) (o : Obj) : LeS B a (a.alloc o) := LeS.below ((Below.refl _ a).alloc (Nat.le_refl _) o)
def lenV (n : Nat) : RSpec := fun v _ => ∃ p, v = .slice p n n
def SL (B : Nat) {α : Type} (R : Rel α) (sz n : Nat) (l : List α) : RSpec := fun v w => ∃ p, v = .slice p n n ∧ SliceOf R sz (B + 1) w.heap.size w p n n l
def RC (B : Nat) (x : Rcp) : RSpec := fun v w => ∃ p, v = .agg (rcpCells x restE p 1 1).toArray ∧ SliceOf RCnd 4 (B + 1) w.heap.size w p 1 1 x.ifs
def RSV (B : Nat) : RSpec := fun v w => ∃ s : SrcV, v = .agg s.cells.toArray ∧ RSrc (B + 1) w.heap.size w s sampleS
def MonoS (B : Nat) (R : RSpec) : Prop := ∀ v w w', LeS B w w' → R v w → R v w'
theorem monoE (B : Nat) (c : Value) : MonoS B (eqV c) := fun _ _ _ _ h => h
theorem monoL (B n : Nat) : MonoS B (lenV n) := fun _ _ _ _ h => h
theorem monoS {B : Nat} {α : Type} {R : Rel α} (hR : Keeps R) {sz n : Nat} {l : List α} : MonoS B (SL B R sz n l) := fun v w w' h ⟨p, e, hs⟩ => ⟨p, e, hs.keep hR (Nat.le_refl _) h.2.1.size h.agree⟩
theorem monoC {B : Nat} {x : Rcp} : MonoS B (RC B x) := fun v w w' h ⟨p, e, hs⟩ => ⟨p, e, hs.keep RCnd.keeps (Nat.le_refl _) h.2.1.size h.agree⟩
theorem monoV {B : Nat} : MonoS B (RSV B) := fun v w w' h ⟨s, e, hs⟩ => ⟨s, e, hs.keep (Nat.le_refl _) h.2.1.size h.agree⟩
theorem monoT {B : Nat} : MonoS B (fun _ w => Stored B w) := fun v w w' h hs => h.1 hs

theorem make_items (w : World) : ∃ o, (Instr.makeSlice 23 (.int .i64 2) (.int .i64 2)).run Try.prog w = .ok (.slice (some ⟨w.heap.size, 0, none⟩) 2 2) (w.alloc o) := by
  have hinfo : (Try.prog.info? 161).map (fun i => decide (i.bytes ≤ 1000) && i.zero.isSome) = some true := by kernel_rfl
  obtain ⟨i, hi, h2⟩ := Option.map_eq_some_iff.1 hinfo
  simp only [Bool.and_eq_true, decide_eq_true_eq] at h2
  obtain ⟨z, hz⟩ := Option.isSome_iff_exists.1 h2.2
  have hr := run_make (P := Try.prog) w 23 161 i z Try.underlying23 hi hz .i64 .i64 2 2 (by omega) (by omega) (by have := h2.1; omega) (by omega)
  exact ⟨_, hr⟩

set_option maxRecDepth 100000 in
set_option maxHeartbeats 4000000 in
theorem sample_any (w : World) :
    Calls Try.prog 25 #[] w fun e w' => ∃ s : SrcV, e = .returned (.agg s.cells.toArray) ∧ RSrc w.heap.size w'.heap.size w' s sampleS ∧ Below w.heap.size w w' := by
  go_enter Try.func25, Try.ntmps25
  go_wp2_with fail
  generalize hw0 : (World.alloc _ _ : World) = w0
  have hb0 : Below w.heap.size w w0 := by rw [← hw0]; exact ((Below.refl _ w).alloc (Nat.le_refl _) _).alloc (by simp) _
  have hz0 : w0.heap.size = w.heap.size + 2 := by rw [← hw0]; simp
  have hS0 : Shape w.heap.size w0 := by
    rw [← hw0]
    exact ⟨List.replicate 8 (.slice none 0 0), rfl, (Own.new w (List.replicate 8 (.slice none 0 0)) 31).alloc _⟩
  clear hw0
  have hW0 : w.heap.size < ({ w0 with drawn := w0.drawn + 1 } : World).heap.size := by show w.heap.size < w0.heap.size; omega
  refine wp_region_rel (LeS w.heap.size) [lenV 2,
    lenV 1,
    eqV (.slice (some ⟨w.heap.size + 1, 0, none⟩) 3 3),
    eqV (.agg #[.string ⟨#[120]⟩, .slice (some ⟨w.heap.size + 1, 0, none⟩) 3 3]),
    eqV (.slice (some ⟨w.heap.size + 1, 0, none⟩) 3 3),
    eqV (.agg #[.string ⟨#[121]⟩, .slice (some ⟨w.heap.size + 1, 0, none⟩) 3 3]),
    SL w.heap.size ROpt 2 2 [3, 3],
    eqV (.func (.func 38) #[] #[]),
    eqV (.agg #[emptyS, emptyS, .int .i64 0, .int .i64 1]),
    eqV (.func (.func 38) #[] #[]),
    eqV (.agg #[emptyS, emptyS, .int .i64 1, .int .i64 2]),
    SL w.heap.size RCnd 4 2 [⟨0, 1⟩, ⟨1, 2⟩],
    eqV (.func (.func 38) #[] #[]),
    eqV (.agg #[emptyS, emptyS, .int .i64 0, .int .i64 2]),
    eqV (.func (.func 38) #[] #[]),
    eqV (.agg #[emptyS, emptyS, .int .i64 1, .int .i64 2]),
    SL w.heap.size RCnd 4 2 [⟨0, 2⟩, ⟨1, 2⟩],
    SL w.heap.size RCnds 1 2 [[⟨0, 1⟩, ⟨1, 2⟩], [⟨0, 2⟩, ⟨1, 2⟩]],
    eqV (.func (.func 38) #[] #[]),
    eqV (.agg #[emptyS, emptyS, .int .i64 0, .int .i64 0]),
    SL w.heap.size RCnd 4 1 [⟨0, 0⟩],
    RC w.heap.size ⟨0, 1024, [⟨0, 0⟩], 0, 0⟩,
    eqV (.func (.func 38) #[] #[]),
    eqV (.agg #[emptyS, emptyS, .int .i64 0, .int .i64 1]),
    SL w.heap.size RCnd 4 1 [⟨0, 1⟩],
    RC w.heap.size ⟨0, 1024, [⟨0, 1⟩], 0, 0⟩,
    eqV (.func (.func 38) #[] #[]),
    eqV (.agg #[emptyS, emptyS, .int .i64 0, .int .i64 2]),
    SL w.heap.size RCnd 4 1 [⟨0, 2⟩],
    RC w.heap.size ⟨0, 7, [⟨0, 2⟩], 0, 0⟩,
    eqV (.func (.func 38) #[] #[]),
    eqV (.agg #[emptyS, emptyS, .int .i64 0, .int .i64 2]),
    SL w.heap.size RCnd 4 1 [⟨0, 2⟩],
    RC w.heap.size ⟨7, 1024, [⟨0, 2⟩], 0, 0⟩,
    SL w.heap.size RRcp 17 4 sampleS.recipes,
    RSV w.heap.size,
    fun _ w' => Stored w.heap.size w'] (by kernel_rfl) (by kernel_rfl) rfl (LeS.refl _) (fun _ _ _ => LeS.trans) (fun j R hR => (List.forall_mem_cons.2 ⟨monoL _ _, List.forall_mem_cons.2 ⟨monoL _ _, List.forall_mem_cons.2 ⟨monoE _ _, List.forall_mem_cons.2 ⟨monoE _ _, List.forall_mem_cons.2 ⟨monoE _ _, List.forall_mem_cons.2 ⟨monoE _ _, List.forall_mem_cons.2 ⟨monoS ROpt.keeps, List.forall_mem_cons.2 ⟨monoE _ _, List.forall_mem_cons.2 ⟨monoE _ _, List.forall_mem_cons.2 ⟨monoE _ _, List.forall_mem_cons.2 ⟨monoE _ _, List.forall_mem_cons.2 ⟨monoS RCnd.keeps, List.forall_mem_cons.2 ⟨monoE _ _, List.forall_mem_cons.2 ⟨monoE _ _, List.forall_mem_cons.2 ⟨monoE _ _, List.forall_mem_cons.2 ⟨monoE _ _, List.forall_mem_cons.2 ⟨monoS RCnd.keeps, List.forall_mem_cons.2 ⟨monoS RCnds.keeps, List.forall_mem_cons.2 ⟨monoE _ _, List.forall_mem_cons.2 ⟨monoE _ _, List.forall_mem_cons.2 ⟨monoS RCnd.keeps, List.forall_mem_cons.2 ⟨monoC, List.forall_mem_cons.2 ⟨monoE _ _, List.forall_mem_cons.2 ⟨monoE _ _, List.forall_mem_cons.2 ⟨monoS RCnd.keeps, List.forall_mem_cons.2 ⟨monoC, List.forall_mem_cons.2 ⟨monoE _ _, List.forall_mem_cons.2 ⟨monoE _ _, List.forall_mem_cons.2 ⟨monoS RCnd.keeps, List.forall_mem_cons.2 ⟨monoC, List.forall_mem_cons.2 ⟨monoE _ _, List.forall_mem_cons.2 ⟨monoE _ _, List.forall_mem_cons.2 ⟨monoS RCnd.keeps, List.forall_mem_cons.2 ⟨monoC, List.forall_mem_cons.2 ⟨monoS RRcp.keeps, List.forall_mem_cons.2 ⟨monoV, List.forall_mem_cons.2 ⟨monoT, fun _ h => by simp at h⟩⟩⟩⟩⟩⟩⟩⟩⟩⟩⟩⟩⟩⟩⟩⟩⟩⟩⟩⟩⟩⟩⟩⟩⟩⟩⟩⟩⟩⟩⟩⟩⟩⟩⟩⟩⟩ : ∀ R ∈ _, MonoS w.heap.size R) R (List.mem_of_getElem? hR)) ?_
  -- operation 0
  refine ⟨fun w1 hw hn => ?_, fun v => ?_⟩
  · obtain ⟨o, ho⟩ := make_items w1
    refine wpList_make_eq rfl 23 _ _ rfl rfl rfl ho ?_
    exact ⟨rfl, rfl, LeS.alloc _ _ _, _, rfl⟩
  simp only [Act.put, List.setIfInBounds_toArray, List.set_cons_succ, List.set_cons_zero]
  -- operation 1
  refine ⟨fun w1 hw hn => ?_, fun v => ?_⟩
  · go_wp2_with fail
    exact ⟨rfl, rfl, LeS.alloc _ _ _, _, rfl⟩
  simp only [Act.put, List.setIfInBounds_toArray, List.set_cons_succ, List.set_cons_zero]
  -- operation 2
  refine ⟨fun w1 hw hn => ?_, fun v => ?_⟩
  · go_wp2_with fail
    exact ⟨rfl, rfl, LeS.refl _ _, rfl⟩
  simp only [Act.put, List.setIfInBounds_toArray, List.set_cons_succ, List.set_cons_zero]
  -- operation 3
  refine ⟨fun w1 hw hn => ?_, fun v => ?_⟩
  · simp [needs, tempsOf, eqV, Op.operands, Call.operands] at hn
    subst hn
    go_wp2_with fail
    exact ⟨rfl, rfl, LeS.refl _ _, rfl⟩
  simp only [Act.put, List.setIfInBounds_toArray, List.set_cons_succ, List.set_cons_zero]
  -- operation 4
  refine ⟨fun w1 hw hn => ?_, fun v => ?_⟩
  · go_wp2_with fail
    exact ⟨rfl, rfl, LeS.refl _ _, rfl⟩
  simp only [Act.put, List.setIfInBounds_toArray, List.set_cons_succ, List.set_cons_zero]
  -- operation 5
  refine ⟨fun w1 hw hn => ?_, fun v => ?_⟩
  · simp [needs, tempsOf, eqV, Op.operands, Call.operands] at hn
    subst hn
    go_wp2_with fail
    exact ⟨rfl, rfl, LeS.refl _ _, rfl⟩
  simp only [Act.put, List.setIfInBounds_toArray, List.set_cons_succ, List.set_cons_zero]
  -- operation 6
  refine ⟨fun w1 hw hn => ?_, fun v => ?_⟩
  · simp [needs, tempsOf, eqV, Op.operands, Call.operands] at hn
    obtain ⟨hn1, hn2⟩ := hn
    subst hn1 hn2
    have hz := hw.2.1.size
    go_wp2_with fail
    refine ⟨rfl, rfl, LeS.alloc _ _ _, _, rfl, ?_⟩
    rw [World.size_alloc]
    exact slice_alloc (R := ROpt) (sz := 2) [3, 3] [[.string ⟨#[120]⟩, .slice (some ⟨w.heap.size + 1, 0, none⟩) 3 3], [.string ⟨#[121]⟩, .slice (some ⟨w.heap.size + 1, 0, none⟩) 3 3]] rfl (by simp) (by simp) (hw.lt hW0) (fun i x vs hx hv => by
      match i with
      | 0 => simp at hx hv; subst hx hv; exact ⟨_, _, _, rfl, by omega, by omega⟩
      | 1 => simp at hx hv; subst hx hv; exact ⟨_, _, _, rfl, by omega, by omega⟩
      | i + 2 => simp at hx)
  simp only [Act.put, List.setIfInBounds_toArray, List.set_cons_succ, List.set_cons_zero]
  -- operation 7
  refine ⟨fun w1 hw hn => ?_, fun v => ?_⟩
  · go_wp2_with fail
    exact ⟨rfl, rfl, LeS.refl _ _, rfl⟩
  simp only [Act.put, List.setIfInBounds_toArray, List.set_cons_succ, List.set_cons_zero]
  -- operation 8
  refine ⟨fun w1 hw hn => ?_, fun v => ?_⟩
  · simp [needs, tempsOf, eqV, Op.operands, Call.operands] at hn
    subst hn
    go_wp2_with (go_at_call 38; refine (sample1_any 0 1 _).mono ?_; rintro e w2 ⟨rfl, hb2⟩)
    exact ⟨rfl, rfl, LeS.below hb2, rfl⟩
  simp only [Act.put, List.setIfInBounds_toArray, List.set_cons_succ, List.set_cons_zero]
  -- operation 9
  refine ⟨fun w1 hw hn => ?_, fun v => ?_⟩
  · go_wp2_with fail
    exact ⟨rfl, rfl, LeS.refl _ _, rfl⟩
  simp only [Act.put, List.setIfInBounds_toArray, List.set_cons_succ, List.set_cons_zero]
  -- operation 10
  refine ⟨fun w1 hw hn => ?_, fun v => ?_⟩
  · simp [needs, tempsOf, eqV, Op.operands, Call.operands] at hn
    subst hn
    go_wp2_with (go_at_call 38; refine (sample1_any 1 2 _).mono ?_; rintro e w2 ⟨rfl, hb2⟩)
    exact ⟨rfl, rfl, LeS.below hb2, rfl⟩
  simp only [Act.put, List.setIfInBounds_toArray, List.set_cons_succ, List.set_cons_zero]
  -- operation 11
  refine ⟨fun w1 hw hn => ?_, fun v => ?_⟩
  · simp [needs, tempsOf, eqV, Op.operands, Call.operands] at hn
    obtain ⟨hn1, hn2⟩ := hn
    subst hn1 hn2
    go_wp2_with fail
    refine ⟨rfl, rfl, LeS.alloc _ _ _, _, rfl, ?_⟩
    rw [World.size_alloc]
    exact slice_alloc (R := RCnd) (sz := 4) [⟨0, 1⟩, ⟨1, 2⟩] [[emptyS, emptyS, .int .i64 0, .int .i64 1], [emptyS, emptyS, .int .i64 1, .int .i64 2]] rfl (by simp) (by simp) (hw.lt hW0) (fun i x vs hx hv => by
      match i with
      | 0 => simp at hx hv; subst hx hv; exact ⟨_, _, rfl, ⟨by simp, by simp⟩, ⟨by simp, by simp⟩⟩
      | 1 => simp at hx hv; subst hx hv; exact ⟨_, _, rfl, ⟨by simp, by simp⟩, ⟨by simp, by simp⟩⟩
      | i + 2 => simp at hx)
  simp only [Act.put, List.setIfInBounds_toArray, List.set_cons_succ, List.set_cons_zero]
  -- operation 12
  refine ⟨fun w1 hw hn => ?_, fun v => ?_⟩
  · go_wp2_with fail
    exact ⟨rfl, rfl, LeS.refl _ _, rfl⟩
  simp only [Act.put, List.setIfInBounds_toArray, List.set_cons_succ, List.set_cons_zero]
  -- operation 13
  refine ⟨fun w1 hw hn => ?_, fun v => ?_⟩
  · simp [needs, tempsOf, eqV, Op.operands, Call.operands] at hn
    subst hn
    go_wp2_with (go_at_call 38; refine (sample1_any 0 2 _).mono ?_; rintro e w2 ⟨rfl, hb2⟩)
    exact ⟨rfl, rfl, LeS.below hb2, rfl⟩
  simp only [Act.put, List.setIfInBounds_toArray, List.set_cons_succ, List.set_cons_zero]
  -- operation 14
  refine ⟨fun w1 hw hn => ?_, fun v => ?_⟩
  · go_wp2_with fail
    exact ⟨rfl, rfl, LeS.refl _ _, rfl⟩
  simp only [Act.put, List.setIfInBounds_toArray, List.set_cons_succ, List.set_cons_zero]
  -- operation 15
  refine ⟨fun w1 hw hn => ?_, fun v => ?_⟩
  · simp [needs, tempsOf, eqV, Op.operands, Call.operands] at hn
    subst hn
    go_wp2_with (go_at_call 38; refine (sample1_any 1 2 _).mono ?_; rintro e w2 ⟨rfl, hb2⟩)
    exact ⟨rfl, rfl, LeS.below hb2, rfl⟩
  simp only [Act.put, List.setIfInBounds_toArray, List.set_cons_succ, List.set_cons_zero]
  -- operation 16
  refine ⟨fun w1 hw hn => ?_, fun v => ?_⟩
  · simp [needs, tempsOf, eqV, Op.operands, Call.operands] at hn
    obtain ⟨hn1, hn2⟩ := hn
    subst hn1 hn2
    go_wp2_with fail
    refine ⟨rfl, rfl, LeS.alloc _ _ _, _, rfl, ?_⟩
    rw [World.size_alloc]
    exact slice_alloc (R := RCnd) (sz := 4) [⟨0, 2⟩, ⟨1, 2⟩] [[emptyS, emptyS, .int .i64 0, .int .i64 2], [emptyS, emptyS, .int .i64 1, .int .i64 2]] rfl (by simp) (by simp) (hw.lt hW0) (fun i x vs hx hv => by
      match i with
      | 0 => simp at hx hv; subst hx hv; exact ⟨_, _, rfl, ⟨by simp, by simp⟩, ⟨by simp, by simp⟩⟩
      | 1 => simp at hx hv; subst hx hv; exact ⟨_, _, rfl, ⟨by simp, by simp⟩, ⟨by simp, by simp⟩⟩
      | i + 2 => simp at hx)
  simp only [Act.put, List.setIfInBounds_toArray, List.set_cons_succ, List.set_cons_zero]
  -- operation 17
  refine ⟨fun w1 hw hn => ?_, fun v => ?_⟩
  · simp [needs, tempsOf, eqV, Op.operands, Call.operands] at hn
    obtain ⟨⟨p2, hn2, hs2⟩, ⟨p1, hn1, hs1⟩⟩ := hn
    subst hn1 hn2
    have hbo := fun o : Obj => (Below.refl _ w1).alloc (Nat.le_refl _) o
    go_wp2_with fail
    refine ⟨rfl, rfl, LeS.alloc _ _ _, _, rfl, ?_⟩
    rw [World.size_alloc]
    exact slice_alloc (R := RCnds) (sz := 1) [[⟨0, 1⟩, ⟨1, 2⟩], [⟨0, 2⟩, ⟨1, 2⟩]] [[.slice p1 2 2], [.slice p2 2 2]] rfl (by simp) (by simp) (hw.lt hW0) (fun i x vs hx hv => by
      match i with
      | 0 => simp at hx hv; subst hx hv; exact ⟨_, _, _, rfl, hs1.keep RCnd.keeps (Nat.le_refl _) (by omega) (Agree.of_below (hbo _) (Nat.le_refl _))⟩
      | 1 => simp at hx hv; subst hx hv; exact ⟨_, _, _, rfl, hs2.keep RCnd.keeps (Nat.le_refl _) (by omega) (Agree.of_below (hbo _) (Nat.le_refl _))⟩
      | i + 2 => simp at hx)
  simp only [Act.put, List.setIfInBounds_toArray, List.set_cons_succ, List.set_cons_zero]
  -- operation 18
  refine ⟨fun w1 hw hn => ?_, fun v => ?_⟩
  · go_wp2_with fail
    exact ⟨rfl, rfl, LeS.refl _ _, rfl⟩
  simp only [Act.put, List.setIfInBounds_toArray, List.set_cons_succ, List.set_cons_zero]
  -- operation 19
  refine ⟨fun w1 hw hn => ?_, fun v => ?_⟩
  · simp [needs, tempsOf, eqV, Op.operands, Call.operands] at hn
    subst hn
    go_wp2_with (go_at_call 38; refine (sample1_any 0 0 _).mono ?_; rintro e w2 ⟨rfl, hb2⟩)
    exact ⟨rfl, rfl, LeS.below hb2, rfl⟩
  simp only [Act.put, List.setIfInBounds_toArray, List.set_cons_succ, List.set_cons_zero]
  -- operation 20
  refine ⟨fun w1 hw hn => ?_, fun v => ?_⟩
  · simp [needs, tempsOf, eqV, Op.operands, Call.operands] at hn
    subst hn
    go_wp2_with fail
    refine ⟨rfl, rfl, LeS.alloc _ _ _, _, rfl, ?_⟩
    rw [World.size_alloc]
    exact slice_alloc (R := RCnd) (sz := 4) [⟨0, 0⟩] [[emptyS, emptyS, .int .i64 0, .int .i64 0]] rfl (by simp) (by simp) (hw.lt hW0) (fun i x vs hx hv => by
      match i with
      | 0 => simp at hx hv; subst hx hv; exact ⟨_, _, rfl, ⟨by simp, by simp⟩, ⟨by simp, by simp⟩⟩
      | i + 1 => simp at hx)
  simp only [Act.put, List.setIfInBounds_toArray, List.set_cons_succ, List.set_cons_zero]
  -- operation 21
  refine ⟨fun w1 hw hn => ?_, fun v => ?_⟩
  · simp [needs, tempsOf, eqV, Op.operands, Call.operands] at hn
    obtain ⟨p, hn1, hs1⟩ := hn
    subst hn1
    go_wp2_with fail
    exact ⟨rfl, rfl, LeS.refl _ _, p, rfl, hs1⟩
  simp only [Act.put, List.setIfInBounds_toArray, List.set_cons_succ, List.set_cons_zero]
  -- operation 22
  refine ⟨fun w1 hw hn => ?_, fun v => ?_⟩
  · go_wp2_with fail
    exact ⟨rfl, rfl, LeS.refl _ _, rfl⟩
  simp only [Act.put, List.setIfInBounds_toArray, List.set_cons_succ, List.set_cons_zero]
  -- operation 23
  refine ⟨fun w1 hw hn => ?_, fun v => ?_⟩
  · simp [needs, tempsOf, eqV, Op.operands, Call.operands] at hn
    subst hn
    go_wp2_with (go_at_call 38; refine (sample1_any 0 1 _).mono ?_; rintro e w2 ⟨rfl, hb2⟩)
    exact ⟨rfl, rfl, LeS.below hb2, rfl⟩
  simp only [Act.put, List.setIfInBounds_toArray, List.set_cons_succ, List.set_cons_zero]
  -- operation 24
  refine ⟨fun w1 hw hn => ?_, fun v => ?_⟩
  · simp [needs, tempsOf, eqV, Op.operands, Call.operands] at hn
    subst hn
    go_wp2_with fail
    refine ⟨rfl, rfl, LeS.alloc _ _ _, _, rfl, ?_⟩
    rw [World.size_alloc]
    exact slice_alloc (R := RCnd) (sz := 4) [⟨0, 1⟩] [[emptyS, emptyS, .int .i64 0, .int .i64 1]] rfl (by simp) (by simp) (hw.lt hW0) (fun i x vs hx hv => by
      match i with
      | 0 => simp at hx hv; subst hx hv; exact ⟨_, _, rfl, ⟨by simp, by simp⟩, ⟨by simp, by simp⟩⟩
      | i + 1 => simp at hx)
  simp only [Act.put, List.setIfInBounds_toArray, List.set_cons_succ, List.set_cons_zero]
  -- operation 25
  refine ⟨fun w1 hw hn => ?_, fun v => ?_⟩
  · simp [needs, tempsOf, eqV, Op.operands, Call.operands] at hn
    obtain ⟨p, hn1, hs1⟩ := hn
    subst hn1
    go_wp2_with fail
    exact ⟨rfl, rfl, LeS.refl _ _, p, rfl, hs1⟩
  simp only [Act.put, List.setIfInBounds_toArray, List.set_cons_succ, List.set_cons_zero]
  -- operation 26
  refine ⟨fun w1 hw hn => ?_, fun v => ?_⟩
  · go_wp2_with fail
    exact ⟨rfl, rfl, LeS.refl _ _, rfl⟩
  simp only [Act.put, List.setIfInBounds_toArray, List.set_cons_succ, List.set_cons_zero]
  -- operation 27
  refine ⟨fun w1 hw hn => ?_, fun v => ?_⟩
  · simp [needs, tempsOf, eqV, Op.operands, Call.operands] at hn
    subst hn
    go_wp2_with (go_at_call 38; refine (sample1_any 0 2 _).mono ?_; rintro e w2 ⟨rfl, hb2⟩)
    exact ⟨rfl, rfl, LeS.below hb2, rfl⟩
  simp only [Act.put, List.setIfInBounds_toArray, List.set_cons_succ, List.set_cons_zero]
  -- operation 28
  refine ⟨fun w1 hw hn => ?_, fun v => ?_⟩
  · simp [needs, tempsOf, eqV, Op.operands, Call.operands] at hn
    subst hn
    go_wp2_with fail
    refine ⟨rfl, rfl, LeS.alloc _ _ _, _, rfl, ?_⟩
    rw [World.size_alloc]
    exact slice_alloc (R := RCnd) (sz := 4) [⟨0, 2⟩] [[emptyS, emptyS, .int .i64 0, .int .i64 2]] rfl (by simp) (by simp) (hw.lt hW0) (fun i x vs hx hv => by
      match i with
      | 0 => simp at hx hv; subst hx hv; exact ⟨_, _, rfl, ⟨by simp, by simp⟩, ⟨by simp, by simp⟩⟩
      | i + 1 => simp at hx)
  simp only [Act.put, List.setIfInBounds_toArray, List.set_cons_succ, List.set_cons_zero]
  -- operation 29
  refine ⟨fun w1 hw hn => ?_, fun v => ?_⟩
  · simp [needs, tempsOf, eqV, Op.operands, Call.operands] at hn
    obtain ⟨p, hn1, hs1⟩ := hn
    subst hn1
    go_wp2_with fail
    exact ⟨rfl, rfl, LeS.refl _ _, p, rfl, hs1⟩
  simp only [Act.put, List.setIfInBounds_toArray, List.set_cons_succ, List.set_cons_zero]
  -- operation 30
  refine ⟨fun w1 hw hn => ?_, fun v => ?_⟩
  · go_wp2_with fail
    exact ⟨rfl, rfl, LeS.refl _ _, rfl⟩
  simp only [Act.put, List.setIfInBounds_toArray, List.set_cons_succ, List.set_cons_zero]
  -- operation 31
  refine ⟨fun w1 hw hn => ?_, fun v => ?_⟩
  · simp [needs, tempsOf, eqV, Op.operands, Call.operands] at hn
    subst hn
    go_wp2_with (go_at_call 38; refine (sample1_any 0 2 _).mono ?_; rintro e w2 ⟨rfl, hb2⟩)
    exact ⟨rfl, rfl, LeS.below hb2, rfl⟩
  simp only [Act.put, List.setIfInBounds_toArray, List.set_cons_succ, List.set_cons_zero]
  -- operation 32
  refine ⟨fun w1 hw hn => ?_, fun v => ?_⟩
  · simp [needs, tempsOf, eqV, Op.operands, Call.operands] at hn
    subst hn
    go_wp2_with fail
    refine ⟨rfl, rfl, LeS.alloc _ _ _, _, rfl, ?_⟩
    rw [World.size_alloc]
    exact slice_alloc (R := RCnd) (sz := 4) [⟨0, 2⟩] [[emptyS, emptyS, .int .i64 0, .int .i64 2]] rfl (by simp) (by simp) (hw.lt hW0) (fun i x vs hx hv => by
      match i with
      | 0 => simp at hx hv; subst hx hv; exact ⟨_, _, rfl, ⟨by simp, by simp⟩, ⟨by simp, by simp⟩⟩
      | i + 1 => simp at hx)
  simp only [Act.put, List.setIfInBounds_toArray, List.set_cons_succ, List.set_cons_zero]
  -- operation 33
  refine ⟨fun w1 hw hn => ?_, fun v => ?_⟩
  · simp [needs, tempsOf, eqV, Op.operands, Call.operands] at hn
    obtain ⟨p, hn1, hs1⟩ := hn
    subst hn1
    go_wp2_with fail
    exact ⟨rfl, rfl, LeS.refl _ _, p, rfl, hs1⟩
  simp only [Act.put, List.setIfInBounds_toArray, List.set_cons_succ, List.set_cons_zero]
  -- operation 34
  refine ⟨fun w1 hw hn => ?_, fun v => ?_⟩
  · simp [needs, tempsOf, eqV, Op.operands, Call.operands] at hn
    obtain ⟨⟨p4, h4, s4⟩, ⟨p3, h3, s3⟩, ⟨p2, h2, s2⟩, ⟨p1, h1, s1⟩⟩ := hn
    unfold rcpCells restE at h1 h2 h3 h4
    subst h1 h2 h3 h4
    have hbo := fun o : Obj => (Below.refl _ w1).alloc (Nat.le_refl _) o
    go_wp2_with fail
    refine ⟨rfl, rfl, LeS.alloc _ _ _, _, rfl, ?_⟩
    rw [World.size_alloc]
    exact slice_alloc (R := RRcp) (sz := 17) sampleS.recipes [rcpCells ⟨0, 1024, [⟨0, 0⟩], 0, 0⟩ restE p1 1 1, rcpCells ⟨0, 1024, [⟨0, 1⟩], 0, 0⟩ restE p2 1 1, rcpCells ⟨0, 7, [⟨0, 2⟩], 0, 0⟩ restE p3 1 1, rcpCells ⟨7, 1024, [⟨0, 2⟩], 0, 0⟩ restE p4 1 1] rfl (by simp [sampleS]) (by simp [rcpCells]) (hw.lt hW0) (fun i x vs hx hv => by
      match i with
      | 0 => simp [sampleS] at hx hv; subst hx hv; exact ⟨restE, p1, 1, 1, rfl, s1.keep RCnd.keeps (Nat.le_refl _) (by omega) (Agree.of_below (hbo _) (Nat.le_refl _)), by unfold IsI64; simp, by unfold IsI64; simp, by unfold IsI64; simp, by unfold IsI64; simp⟩
      | 1 => simp [sampleS] at hx hv; subst hx hv; exact ⟨restE, p2, 1, 1, rfl, s2.keep RCnd.keeps (Nat.le_refl _) (by omega) (Agree.of_below (hbo _) (Nat.le_refl _)), by unfold IsI64; simp, by unfold IsI64; simp, by unfold IsI64; simp, by unfold IsI64; simp⟩
      | 2 => simp [sampleS] at hx hv; subst hx hv; exact ⟨restE, p3, 1, 1, rfl, s3.keep RCnd.keeps (Nat.le_refl _) (by omega) (Agree.of_below (hbo _) (Nat.le_refl _)), by unfold IsI64; simp, by unfold IsI64; simp, by unfold IsI64; simp, by unfold IsI64; simp⟩
      | 3 => simp [sampleS] at hx hv; subst hx hv; exact ⟨restE, p4, 1, 1, rfl, s4.keep RCnd.keeps (Nat.le_refl _) (by omega) (Agree.of_below (hbo _) (Nat.le_refl _)), by unfold IsI64; simp, by unfold IsI64; simp, by unfold IsI64; simp, by unfold IsI64; simp⟩
      | i + 4 => simp [sampleS] at hx)
  simp only [Act.put, List.setIfInBounds_toArray, List.set_cons_succ, List.set_cons_zero]
  -- operation 35
  refine ⟨fun w1 hw hn => ?_, fun v => ?_⟩
  · simp [needs, tempsOf, eqV, Op.operands, Call.operands] at hn
    obtain ⟨⟨p7, h7, s7⟩, ⟨p6, h6, s6⟩, ⟨p5, h5, s5⟩, ⟨p3, h3⟩, ⟨p2, h2⟩⟩ := hn
    subst h7 h6 h5 h3 h2
    go_wp2_with fail
    exact ⟨rfl, rfl, LeS.refl _ _, ⟨⟨none, 0, 0⟩, ⟨p2, 2, 2⟩, ⟨p3, 1, 1⟩, ⟨none, 0, 0⟩, ⟨p5, 2, 2⟩, ⟨p6, 2, 2⟩, ⟨p7, 4, 4⟩, ⟨none, 0, 0⟩⟩, rfl, s5, s6, s7, ⟨rfl, by simp [sampleS]⟩, ⟨rfl, by simp [sampleS]⟩⟩
  simp only [Act.put, List.setIfInBounds_toArray, List.set_cons_succ, List.set_cons_zero]
  -- operation 36
  refine ⟨fun w1 hw hn => ?_, fun v => ?_⟩
  · simp [needs, tempsOf, eqV, Op.operands, Call.operands] at hn
    obtain ⟨s, h1, hs⟩ := hn
    subst h1
    obtain ⟨xs, hxl, ho⟩ := hw.2.2 hS0
    have HO := Lib.hid ho
    match xs, hxl, ho, HO with
    | [x0, x1, x2, x3, x4, x5, x6, x7], _, ho, HO =>
      have c0 := ho.cell (j := 0) rfl
      have c1 := ho.cell (j := 1) rfl
      have c2 := ho.cell (j := 2) rfl
      have c3 := ho.cell (j := 3) rfl
      have c4 := ho.cell (j := 4) rfl
      have c5 := ho.cell (j := 5) rfl
      have c6 := ho.cell (j := 6) rfl
      have c7 := ho.cell (j := 7) rfl
      have fz := ho.frozen
      obtain ⟨⟨up, un, uc⟩, ⟨ip, iN, ic⟩, ⟨pp, pn, pc⟩, ⟨mp, mn, mc⟩, ⟨op, on, oc⟩, ⟨fp, fn, fc⟩, ⟨rp, rn, rc⟩, ⟨sp, sn, sc⟩⟩ := s
      have HS := Lib.hid hs
      clear hs ho
      go_wp2_with fail
      have HF := ((((((((HO.out.set 0 (.slice up un uc)).set 1 (.slice ip iN ic)).set 2 (.slice pp pn pc)).set 3 (.slice mp mn mc)).set 4 (.slice op on oc)).set 5 (.slice fp fn fc)).set 6 (.slice rp rn rc)).set 7 (.slice sp sn sc))
      have HG := (((((((((LeS.refl w.heap.size w1).2.1.trans (grown_set _ _ 0 (.slice up un uc))).trans (grown_set _ _ 1 (.slice ip iN ic))).trans (grown_set _ _ 2 (.slice pp pn pc))).trans (grown_set _ _ 3 (.slice mp mn mc))).trans (grown_set _ _ 4 (.slice op on oc))).trans (grown_set _ _ 5 (.slice fp fn fc))).trans (grown_set _ _ 6 (.slice rp rn rc))).trans (grown_set _ _ 7 (.slice sp sn sc)))
      have HT := HS.out.keep (Nat.le_refl _) HG.size (fun k h1 h2 => HG.block k h2 (fun e => by injection e with e; omega))
      exact ⟨rfl, rfl, ⟨fun _ => ⟨_, HT, HF⟩, HG, fun _ => ⟨_, rfl, HF⟩⟩, _, HT, HF⟩
  simp only [Act.put, List.setIfInBounds_toArray, List.set_cons_succ, List.set_cons_zero]
  intro w1 hw hn
  obtain ⟨s, hs, ho⟩ : Stored w.heap.size w1 := hn.1
  clear hn
  have hb0' : Below w.heap.size w { w0 with drawn := w0.drawn + 1 } := hb0.trans ⟨rfl, rfl, rfl, Nat.le_refl _, fun _ _ => rfl⟩
  have hbf : Below w.heap.size w w1 := hb0'.grown hw.2.1 (by show w.heap.size ≤ w0.heap.size; omega) (fun k e => by cases e; exact Nat.le_refl _)
  have HO := Lib.hid ho
  have HS := Lib.hid hs
  clear hs ho hS0
  go_wp2_with fail
  refine bodyPost_ret (agg_result (b := w.heap.size) rfl rfl Try.isAgg31 Try.sizeOf31 s.cells rfl (fun j u hj => HO.out.cell hj)) rfl ?_
  exact ⟨s, rfl, HS.out.keep (by omega) (Nat.le_refl _) (Agree.refl _ _ _), hbf⟩
end Go.Proofs.Ytpbajggbinljiaa
