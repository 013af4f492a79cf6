/-
  What came in, read as the walks want it: from the row's word 'trod' (an argument reads as a datum) to 'SliceOf'; and the frame of a law's row: the call returns true and only makes new memory.
-/
import Derived.Test.YtpbajggbinljiaaMem
import Derived.Test.YtpbajggbinljiaaRows
import Derived.ProofKit
import Derived.Deep.Slices
namespace Go.Proofs.Ytpbajggbinljiaa
set_option linter.unusedVariables false
set_option linter.unusedSimpArgs false
set_option linter.unnecessarySimpa false
set_option linter.unusedSectionVars false
open Go.ChangeShapes Go.WideShapes Go.RowKit Go.Deep

/-- Whatever reads as a datum of type t reads as some a : α. -/
def Opens {α : Type} (R : Rel α) (t : TypeId) (sz : Nat) : Prop :=
  ∀ (H : Type) (enc : TypeId × Value → H) (w : World) (base : Nat) (spare : Nat → Bool) (held : Bool) (fuel : Nat) (cs : List Value) (x : DataW H × List MemPlace), DataW.trod enc Try.prog w base spare held fuel t cs = some x → cs.length = sz ∧ ∃ a, R 0 w.heap.size w a cs

theorem wf_i64' {x : Int} (h : (Lit.int .i64 x).wf = true) : IsI64 x := by
  simp only [Lit.wf, Bool.and_eq_true, decide_eq_true_eq] at h
  exact h
theorem add_block (a : Addr) (n : Nat) : (a.add n).block = a.block := by unfold Addr.add; split <;> rfl
theorem add_zero (a : Addr) : a.add 0 = a := by unfold Addr.add; simp

theorem opens_int {t : TypeId} (ht : Try.prog.underlying t = some (.int .i64)) : Opens RInt t 1 := by
  intro H enc w base spare held fuel cs x h
  obtain ⟨n, rfl, _, hw⟩ := DataW.trod_int ht h
  exact ⟨rfl, n, rfl, wf_i64' hw⟩
/-- a bool, a string: that it is one -/
def RBool : Rel Bool := fun _ _ _ x vs => vs = [.bool x]
def RStr : Rel ByteArray := fun _ _ _ x vs => vs = [.string x] ∧ x.size ≤ maxLen
theorem RStr.keeps : Keeps RStr := fun _ _ _ _ _ _ _ _ _ _ _ h => h
theorem opens_bool {t : TypeId} (ht : Try.prog.underlying t = some .bool) : Opens RBool t 1 := by
  intro H enc w base spare held fuel cs x h
  obtain ⟨n, rfl, _⟩ := DataW.trod_bool ht h
  exact ⟨rfl, n, rfl⟩
theorem opens_str {t : TypeId} (ht : Try.prog.underlying t = some .string) : Opens RStr t 1 := by
  intro H enc w base spare held fuel cs x h
  obtain ⟨n, rfl, _, hm⟩ := DataW.trod_string ht h
  exact ⟨rfl, n, rfl, hm⟩

theorem opens_slice {α : Type} [Inhabited α] {R : Rel α} {t e : TypeId} {sz : Nat} (hR : Opens R e sz) (ht : Try.prog.underlying t = some (.slice e)) (hC : Try.prog.cellsOf e = sz) (hsz : 0 < sz) : Opens (RSlice R sz) t 1 := by
  intro H enc w base spare held fuel cs x h
  rcases DataW.trod_slice ht h with ⟨rfl, _⟩ | ⟨a, len, cap, elems, rest, n, _, rfl, _, _, hl, hm, hlen, hel, _, _⟩
  · exact ⟨rfl, [], none, 0, 0, rfl, rfl, Nat.le_refl _, by omega, fun i x hx => by simp at hx⟩
  · have hspot : 0 < len → a.spot = none := by
      intro h0
      have h1 := hel 0 h0
      rw [List.getElem?_eq_getElem (by omega), Option.bind_eq_some_iff] at h1
      obtain ⟨vs, h2, _⟩ := h1
      obtain ⟨_, h4, h5⟩ := World.cells?_some h2
      have h6 := h5 0 (by omega)
      rw [List.getElem?_eq_getElem (by omega), Nat.zero_mul, add_zero, add_zero] at h6
      exact World.cell?_spot h6
    have each : ∀ i, i < len → ∃ y : α, ∃ b off vs, a = ⟨b, off, none⟩ ∧ b < w.heap.size ∧ R 0 w.heap.size w y vs ∧ vs.length = sz ∧ ∀ j u, vs[j]? = some u → w.cell? ⟨b, off + i * sz + j, none⟩ = some u := by
      intro i hi
      have h1 := hel i hi
      rw [List.getElem?_eq_getElem (by omega), Option.bind_eq_some_iff] at h1
      obtain ⟨vs, h2, h3⟩ := h1
      obtain ⟨hv, y, hy⟩ := hR _ _ _ _ _ _ _ _ _ h3
      obtain ⟨_, h4, h5⟩ := World.cells?_some h2
      rw [hC] at h4 h5 h2
      have h0 := h5 0 hsz
      rw [List.getElem?_eq_getElem (by omega)] at h0
      have hsp := hspot (by omega)
      have hb' := World.block_lt_of_cell? w _ h0
      rw [add_block, add_block] at hb'
      obtain ⟨b, off, spot⟩ := a
      dsimp only at hsp hb'
      subst hsp
      refine ⟨y, b, off, vs, rfl, hb', hy, hv, fun j u hu => ?_⟩
      have := h5 j (by have := lt_of_some hu; omega)
      rw [add_plain, add_plain] at this
      rw [this, hu]
    obtain ⟨f, hf⟩ := choose_lt each
    refine ⟨rfl, (List.range len).map f, some a, len, cap, rfl, by simp, hl, by unfold maxLen at hm; omega, fun i x hx => ?_⟩
    rw [List.getElem?_map] at hx
    obtain ⟨k, hk, rfl⟩ := Option.map_eq_some_iff.1 hx
    have hil : i < len := by have := lt_of_some hk; simpa using this
    rw [List.getElem?_range hil] at hk
    injection hk with hk
    subst hk
    obtain ⟨b, off, vs, rfl, hb, hy, hv, hc⟩ := hf i hil
    exact ⟨b, off, vs, rfl, Nat.zero_le _, hb, hy, hv, hc⟩
/-- a slice into which nobody looks -/
theorem opens_slice_any {t e : TypeId} (ht : Try.prog.underlying t = some (.slice e)) : Opens (fun _ _ _ (x : Option Addr × Nat × Nat) vs => vs = [.slice x.1 x.2.1 x.2.2] ∧ x.2.1 ≤ x.2.2 ∧ x.2.2 ≤ 9223372036854775807) t 1 := by
  intro H enc w base spare held fuel cs x h
  rcases DataW.trod_slice ht h with ⟨rfl, _⟩ | ⟨a, len, cap, elems, rest, n, _, rfl, _, _, hl, hm, _⟩
  · exact ⟨rfl, (none, 0, 0), rfl, Nat.le_refl _, by show (0 : Nat) ≤ _; omega⟩
  · exact ⟨rfl, (some a, len, cap), rfl, hl, by unfold maxLen at hm; show cap ≤ _; omega⟩

/-- a field of a struct reads -/
theorem field_at {H : Type} {enc : TypeId × Value → H} {w : World} {base : Nat} {spare : Nat → Bool} {held : Bool} {fuel : Nat} {t : TypeId} {cs : List Value} {x : DataW H × List MemPlace} {fs : Array Field}
    (ht : Try.prog.underlying t = some (.struct fs)) (h : DataW.trod enc Try.prog w base spare held fuel t cs = some x) (j : Nat) (f : Field) (hj : fs[j]? = some f) (k : Nat) (hk : Try.prog.cellsOf f.type = k) (seg : List Value) (hs : (cs.drop f.offset).take k = seg) :
    ∃ n y, DataW.trod enc Try.prog w base spare held n f.type seg = some y := by
  obtain ⟨xs, n, _, _, _, hxl, hf⟩ := DataW.trod_struct ht h
  have h1 := hf j f hj
  have hjl : j < fs.size := (Array.getElem?_eq_some_iff.1 hj).1
  rw [hk, hs, List.getElem?_eq_getElem (by omega)] at h1
  exact ⟨n, _, h1⟩
theorem struct_len {H : Type} {enc : TypeId × Value → H} {w : World} {base : Nat} {spare : Nat → Bool} {held : Bool} {fuel : Nat} {t : TypeId} {cs : List Value} {x : DataW H × List MemPlace} {fs : Array Field}
    (ht : Try.prog.underlying t = some (.struct fs)) (h : DataW.trod enc Try.prog w base spare held fuel t cs = some x) (k : Nat) (hk : Try.prog.cellsOf t = k) : cs.length = k := by
  obtain ⟨_, _, _, _, hl, _⟩ := DataW.trod_struct ht h
  exact hl.trans hk

/-! ### An argument -/
section
variable {H : Type} {enc : TypeId × Value → H} {w : World} {base b0 : Nat} {spare : Nat → Bool} {held : Bool} {t : TypeId} {v : Value} {d : DataW H} {p : List MemPlace}
set_option maxRecDepth 100000 in
theorem arg_int {k : IntKind} (ht : Try.prog.underlying t = some (.int k)) (hv : Value.okWide Try.prog w .any b0 t v) (h : DataW.Trod enc Try.prog w base spare held t v d p) : ∃ n, v = .int k n ∧ (Lit.int k n).wf = true := by
  obtain ⟨n, rfl⟩ := okWide_int ht hv
  obtain ⟨fuel, h⟩ := h
  obtain ⟨m, e, _, hw⟩ := DataW.trod_int ht h
  have : n = m := by simpa [Value.cells] using e
  subst this
  exact ⟨n, rfl, hw⟩
set_option maxRecDepth 100000 in
theorem arg_slice {α : Type} {R : Rel α} {sz : Nat} {e : TypeId} (hO : Opens (RSlice R sz) t 1) (ht : Try.prog.underlying t = some (.slice e)) (hv : Value.okWide Try.prog w .any b0 t v) (h : DataW.Trod enc Try.prog w base spare held t v d p) :
    ∃ q n cap l, v = .slice q n cap ∧ SliceOf R sz 0 w.heap.size w q n cap l := by
  obtain ⟨q, n, cap, rfl⟩ := okWide_slice ht hv
  obtain ⟨fuel, h⟩ := h
  obtain ⟨_, l, q', n', cap', e, hs⟩ := hO _ _ _ _ _ _ _ _ _ h
  have : q = q' ∧ n = n' ∧ cap = cap' := by simpa [Value.cells] using e
  obtain ⟨rfl, rfl, rfl⟩ := this
  exact ⟨q, n, cap, l, rfl, hs⟩
set_option maxRecDepth 100000 in
theorem arg_struct {α : Type} {R : Rel α} {sz : Nat} {fs : Array Field} (hO : Opens R t sz) (ht : Try.prog.underlying t = some (.struct fs)) (hv : Value.okWide Try.prog w .any b0 t v) (h : DataW.Trod enc Try.prog w base spare held t v d p) :
    ∃ cs a, v = .agg cs ∧ R 0 w.heap.size w a cs.toList := by
  obtain ⟨cs, rfl, _⟩ := okWide_struct ht hv
  obtain ⟨fuel, h⟩ := h
  obtain ⟨_, a, ha⟩ := hO _ _ _ _ _ _ _ _ _ h
  exact ⟨cs, a, rfl, ha⟩
end

/-! ### The row of a law -/
theorem Try.own : ownKnob Try.prog.godebug = none := by kernel_rfl
theorem Try.laid : laidOutB Try.prog = true := by kernel_rfl

section
variable {H : Type} {enc : TypeId × Value → H} {P : Program}
theorem trodAll_stays (hl : laidOutB P = true) {W W' : World} {sp : Nat → Bool} (hb : Below W.heap.size W W') : ∀ {ts : List TypeId} {vs : List Value} {ds : List (DataW H)} {ps : List MemPlace},
    (ts.all fun t => P.readableRec t && decide (t < P.types.size)) = true → DataW.TrodAll enc P W 0 (fun _ => true) true ts vs ds ps → (∀ p ∈ ps, p.block < W.heap.size) → (∀ p ∈ ps, sp p.block = true) → DataW.TrodAll enc P W' 0 sp true ts vs ds ps
  | [], vs, ds, ps, _, h, _, _ => by
    obtain ⟨rfl, rfl, rfl⟩ := trodAll_nil h
    exact trodAll_mk0
  | t :: ts, vs, ds, ps, hr, h, hlt, hsp => by
    obtain ⟨v, vs', d, ds', p, q, rfl, rfl, rfl, h1, h2⟩ := trodAll_cons h
    simp only [List.all_cons, Bool.and_eq_true, decide_eq_true_eq] at hr
    refine ⟨p, q, ?_, trodAll_stays hl hb hr.2 h2 (fun x hx => hlt x (List.mem_append_right _ hx)) (fun x hx => hsp x (List.mem_append_right _ hx)), rfl⟩
    exact WideElems.Trod_stays hl hr.1.1 hr.1.2 h1 (fun x hx => hb.same (hlt x (List.mem_append_left _ hx))) (fun x hx => hsp x (List.mem_append_left _ hx))

/-- the row's post, of a law: it returned true, and only made new memory -/
theorem law_post {f : Func} {s : ChangeSpec} {fresh handsOn again : Bool} {W W' : World} {args : Array Value} {ds gs : List (DataW H)} {before : List MemPlace} {tb : TypeId}
    (hl : laidOutB P = true) (hr : (f.params.toList.all fun t => P.readableRec t && decide (t < P.types.size)) = true) (hres : f.resultTypes = #[tb]) (htb : P.underlying tb = some .bool) (hv : s.vars = [])
    (hs : (s.fn H ds).results = [.lit (.bool true)] ∧ (s.fn H ds).args = ds ∧ (s.fn H ds).vars = [])
    (hW : DataW.Whole enc P f.params.toList s.vars false W args.toList ds gs before) (hb : Below W.heap.size W W') :
    s.post enc P f false fresh handsOn again W args (.bool true) W' := by
  have hW' := hW
  obtain ⟨p, q, hA, hV, rfl, hz, hn⟩ := hW
  rw [hv] at hV
  obtain ⟨rfl, rfl⟩ := trodVars_none hV
  have hlt : ∀ x ∈ p ++ [], x.block < W.heap.size := fun x hx => hW'.lt x hx
  have hold : ∀ x ∈ p ++ [], (fun b => decide (b < W.heap.size)) x.block = true := fun x hx => by simpa using hlt x hx
  have hbool : ∀ (b : Nat) (sp : Nat → Bool) (hd : Bool), DataW.TrodAll enc P W' b sp hd [tb] [Value.bool true] [.lit (.bool true)] [] := fun b sp hd => trodAll_mk1 ⟨1, by simp [DataW.trod, htb, Value.cells]⟩
  have hargs : ∀ sp : Nat → Bool, (∀ x ∈ p ++ [], sp x.block = true) → DataW.TrodAll enc P W' 0 sp true f.params.toList args.toList ds p := fun sp hsp =>
    trodAll_stays hl hb hr hA (fun x hx => hlt x (by simpa using hx)) (fun x hx => hsp x (by simpa using hx))
  have hrl : (Value.bool true).resultList f.resultTypes.size = [Value.bool true] := by rw [hres]; rfl
  have hok : ∀ (j : Nat) (t : TypeId) (r : Value), f.resultTypes[j]? = some t → ((Value.bool true).resultList f.resultTypes.size)[j]? = some r → Value.okWide P W' .any 0 t r := by
    intro j t r h1 h2
    rw [hrl] at h2
    rw [hres] at h1
    match j with
    | 0 =>
      simp at h1 h2
      subst h1 h2
      exact okWide_bool_mk htb true
    | j + 1 => simp at h2
  refine ⟨ds, [], p ++ [], [], p, [], hW', ?_, ?_, ?_, World.keptBut_mono (fun x hx => ⟨hx, .inr (by simpa using hx)⟩) (hb.frame (· ∈ p ++ [])), fun _ => ?_⟩
  · rw [hrl, hres, List.append_nil, hs.1]; exact hbool _ _ _
  · rw [List.append_nil, hs.2.1]; exact hargs _ hold
  · rw [List.append_nil, hs.2.2, hv]; rfl
  · refine ⟨hok, _, ([] : List (DataW H)), ([] ++ p) ++ [], ⟨[] ++ p, [], trodAll_append (hargs (fun _ => true) (fun _ _ => rfl)) (by rw [hrl, hres]; exact hbool 0 (fun _ => true) true), by rw [hv]; rfl, rfl, ?_, ?_⟩, ?_⟩
    · intro b off hp
      have hin : MemPlace.cell b off ∈ p ++ [] := by simpa using hp
      rw [hb.frozen (hlt _ hin)]
      exact hz b off hin
    · intro ha; cases ha
    · intro x hx _
      simpa using hx
end
end Go.Proofs.Ytpbajggbinljiaa
