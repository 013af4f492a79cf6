/-
  How a source of options reads: conditions, forbidden lists, recipes; and what the functions of layer 13 compute on what was read (plain Lean).
-/
import Derived.Test.YtpbajggbinljiaaMem
namespace Go.Proofs.Ytpbajggbinljiaa
set_option linter.unusedVariables false
set_option linter.unusedSimpArgs false
set_option linter.unnecessarySimpa false
set_option linter.unusedSectionVars false
open Go.RowKit

/-- A condition: the option's number, the choice's number. -/
structure Cnd where
  on : Int
  cn : Int
/-- A recipe, as far as layer 13 looks at it. -/
structure Rcp where
  frm : Int
  to : Int
  ifs : List Cnd
  item : Int
  plant : Int
/-- A source: how many choices each option has; what is forbidden; the recipes; how many items and plants there are. -/
structure Src where
  options : List Nat
  forbids : List (List Cnd)
  recipes : List Rcp
  items : Nat
  plants : Nat

def RCnd : Rel Cnd := fun _ _ _ x vs => ∃ o c : ByteArray, vs = [.string o, .string c, .int .i64 x.on, .int .i64 x.cn] ∧ IsI64 x.on ∧ IsI64 x.cn
theorem RCnd.keeps : Keeps RCnd := fun _ _ _ _ _ _ _ _ _ _ _ h => h
def RCnds : Rel (List Cnd) := RSlice RCnd 4
theorem RCnds.keeps : Keeps RCnds := RSlice.keeps RCnd.keeps 4
def ROpt : Rel Nat := fun _ _ _ x vs => ∃ (nm : ByteArray) (p : Option Addr) (cap : Nat), vs = [.string nm, .slice p x cap] ∧ x ≤ cap ∧ cap ≤ 9223372036854775807
theorem ROpt.keeps : Keeps ROpt := fun _ _ _ _ _ _ _ _ _ _ _ h => h

/-- the fields of a recipe that nobody looks at here -/
structure RcpRest where
  item : ByteArray
  plant : ByteArray
  inP : Option Addr
  inN : Nat
  inC : Nat
  outP : Option Addr
  outN : Nat
  outC : Nat
  reworkN : Int
  reworkD : Int
  yieldN : Int
  yieldD : Int
  tolN : Int
  tolD : Int
  lead : Int
  runP : Option Addr
  runN : Nat
  runC : Nat
def rcpCells (x : Rcp) (r : RcpRest) (p : Option Addr) (n cap : Nat) : List Value :=
  [.string r.item, .string r.plant, .int .i64 x.frm, .int .i64 x.to, .slice p n cap, .slice r.inP r.inN r.inC, .slice r.outP r.outN r.outC, .int .i64 r.reworkN, .int .i64 r.reworkD, .int .i64 r.yieldN, .int .i64 r.yieldD, .int .i64 r.tolN, .int .i64 r.tolD, .int .i64 r.lead, .slice r.runP r.runN r.runC, .int .i64 x.item, .int .i64 x.plant]
def RRcp : Rel Rcp := fun lo hi w x vs => ∃ r p n cap, vs = rcpCells x r p n cap ∧ SliceOf RCnd 4 lo hi w p n cap x.ifs ∧ IsI64 x.frm ∧ IsI64 x.to ∧ IsI64 x.item ∧ IsI64 x.plant
theorem RRcp.keeps : Keeps RRcp := by
  rintro lo hi lo' hi' w w' x vs h1 h2 ha ⟨r, p, n, cap, rfl, h, r1, r2, r3, r4⟩
  exact ⟨r, p, n, cap, rfl, h.keep RCnd.keeps h1 h2 ha, r1, r2, r3, r4⟩

/-- A slice's three words. -/
structure Sl where
  p : Option Addr
  n : Nat
  c : Nat
/-- The eight slices of a source. -/
structure SrcV where
  un : Sl
  it : Sl
  pl : Sl
  ma : Sl
  op : Sl
  fo : Sl
  re : Sl
  sw : Sl
abbrev SrcV.cells (s : SrcV) : List Value :=
  [.slice s.un.p s.un.n s.un.c, .slice s.it.p s.it.n s.it.c, .slice s.pl.p s.pl.n s.pl.c, .slice s.ma.p s.ma.n s.ma.c, .slice s.op.p s.op.n s.op.c, .slice s.fo.p s.fo.n s.fo.c, .slice s.re.p s.re.n s.re.c, .slice s.sw.p s.sw.n s.sw.c]
structure RSrc (lo hi : Nat) (w : World) (s : SrcV) (S : Src) : Prop where
  op : SliceOf ROpt 2 lo hi w s.op.p s.op.n s.op.c S.options
  fo : SliceOf RCnds 1 lo hi w s.fo.p s.fo.n s.fo.c S.forbids
  re : SliceOf RRcp 17 lo hi w s.re.p s.re.n s.re.c S.recipes
  it : s.it.n = S.items ∧ S.items ≤ 9223372036854775807
  pl : s.pl.n = S.plants ∧ S.plants ≤ 9223372036854775807
theorem RSrc.keep {lo hi lo' hi' : Nat} {w w' : World} {s : SrcV} {S : Src} (h : RSrc lo hi w s S) (h1 : lo' ≤ lo) (h2 : hi ≤ hi') (ha : Agree lo hi w w') : RSrc lo' hi' w' s S :=
  ⟨h.op.keep ROpt.keeps h1 h2 ha, h.fo.keep RCnds.keeps h1 h2 ha, h.re.keep RRcp.keeps h1 h2 ha, h.it, h.pl⟩

section
variable {lo hi : Nat} {w : World} {p : Option Addr} {n cap : Nat}
theorem slice_cnd {l : List Cnd} (h : SliceOf RCnd 4 lo hi w p n cap l) {k : Nat} (hk : k < n) :
    ∃ (x : Cnd) (b off : Nat) (o c : ByteArray), l[k]? = some x ∧ p = some ⟨b, off, none⟩ ∧ lo ≤ b ∧ b < hi ∧ -9223372036854775808 ≤ x.on ∧ x.on ≤ 9223372036854775807 ∧ -9223372036854775808 ≤ x.cn ∧ x.cn ≤ 9223372036854775807 ∧
      w.cell? ⟨b, off + k * 4, none⟩ = some (.string o) ∧ w.cell? ⟨b, off + k * 4 + 1, none⟩ = some (.string c) ∧ w.cell? ⟨b, off + k * 4 + 2, none⟩ = some (.int .i64 x.on) ∧ w.cell? ⟨b, off + k * 4 + 3, none⟩ = some (.int .i64 x.cn) := by
  obtain ⟨x, b, off, vs, hx, hp, h1, h2, ⟨o, c, rfl, hr, hs⟩, _, hc⟩ := slice_elem h hk
  exact ⟨x, b, off, o, c, hx, hp, h1, h2, hr.1, hr.2, hs.1, hs.2, hc 0 _ rfl, hc 1 _ rfl, hc 2 _ rfl, hc 3 _ rfl⟩
theorem slice_cnds {l : List (List Cnd)} (h : SliceOf RCnds 1 lo hi w p n cap l) {k : Nat} (hk : k < n) :
    ∃ (x : List Cnd) (b off : Nat) (p' : Option Addr) (n' cap' : Nat), l[k]? = some x ∧ p = some ⟨b, off, none⟩ ∧ lo ≤ b ∧ b < hi ∧ w.cell? ⟨b, off + k, none⟩ = some (.slice p' n' cap') ∧ SliceOf RCnd 4 lo hi w p' n' cap' x := by
  obtain ⟨x, b, off, vs, hx, hp, h1, h2, ⟨p', n', cap', rfl, hs⟩, _, hc⟩ := slice_elem h hk
  exact ⟨x, b, off, p', n', cap', hx, hp, h1, h2, by simpa using hc 0 _ rfl, hs⟩
theorem slice_opt {l : List Nat} (h : SliceOf ROpt 2 lo hi w p n cap l) {k : Nat} (hk : k < n) :
    ∃ (x : Nat) (b off : Nat) (nm : ByteArray) (p' : Option Addr) (cap' : Nat), l[k]? = some x ∧ p = some ⟨b, off, none⟩ ∧ lo ≤ b ∧ b < hi ∧ x ≤ 9223372036854775807 ∧
      w.cell? ⟨b, off + k * 2, none⟩ = some (.string nm) ∧ w.cell? ⟨b, off + k * 2 + 1, none⟩ = some (.slice p' x cap') := by
  obtain ⟨x, b, off, vs, hx, hp, h1, h2, ⟨nm, p', cap', rfl, hs, hs'⟩, _, hc⟩ := slice_elem h hk
  exact ⟨x, b, off, nm, p', cap', hx, hp, h1, h2, Nat.le_trans hs hs', hc 0 _ rfl, hc 1 _ rfl⟩
end

/-! ### What the functions compute -/
/-- a condition holds -/
def cndB (c : List Int) (x : Cnd) : Bool := decide (0 ≤ x.on) && decide (x.on < (c.length : Int)) && decide (c[x.on.toNat]? = some x.cn)
def holdB (l : List Cnd) (c : List Int) : Bool := l.all (cndB c)
theorem holdB_false {l : List Cnd} {c : List Int} {k : Nat} {x : Cnd} (hx : l[k]? = some x) (h : cndB c x = false) : holdB l c = false := by
  unfold holdB
  rw [List.all_eq_false]
  exact ⟨x, List.mem_of_getElem? hx, by simp [h]⟩
theorem holdB_step {l : List Cnd} {c : List Int} {k : Nat} {x : Cnd} (hx : l[k]? = some x) (h : cndB c x = true) (hk : holdB (l.take k) c = true) : holdB (l.take (k + 1)) c = true := by
  rw [take_succ_some hx]; unfold holdB at *; rw [List.all_append, hk]; simp [h]
theorem cndB_neg {c : List Int} {x : Cnd} (h : x.on < 0) : cndB c x = false := by simp [cndB]; intros; omega
theorem cndB_great {c : List Int} {x : Cnd} (h : (c.length : Int) ≤ x.on) : cndB c x = false := by simp [cndB]; intros; omega
theorem cndB_ne {c : List Int} {x : Cnd} {v : Int} (hv : c[x.on.toNat]? = some v) (h : v ≠ x.cn) : cndB c x = false := by simp [cndB, hv, h]
theorem cndB_true {c : List Int} {x : Cnd} (h0 : 0 ≤ x.on) (h1 : x.on < (c.length : Int)) (hv : c[x.on.toNat]? = some x.cn) : cndB c x = true := by unfold cndB; rw [hv]; simp [h0, h1]
end Go.Proofs.Ytpbajggbinljiaa
