/-
  Plain: configurations in the order of their codes: the next one, and that none that is permitted lies between.
-/
import Derived.Test.YtpbajggbinljiaaOptConfig
namespace Go.Proofs.Ytpbajggbinljiaa
set_option linter.unusedVariables false
set_option linter.unusedSimpArgs false
set_option linter.unnecessarySimpa false
set_option linter.unusedSectionVars false

def codeN (c : List Int) : Nat := c.foldl (fun n x => n * 4 + x.toNat) 0
theorem foldl_code (c : List Int) : ∀ n : Nat, c.foldl (fun n x => n * 4 + x.toNat) n = n * 4 ^ c.length + codeN c := by
  unfold codeN
  induction c with
  | nil => intro n; simp
  | cons x c ih =>
    intro n
    simp only [List.foldl_cons, List.length_cons]
    rw [ih, ih (0 * 4 + x.toNat), Nat.pow_succ, Nat.add_mul, Nat.zero_mul, Nat.zero_add, Nat.mul_assoc, Nat.mul_comm 4]
    omega
theorem codeN_append (a b : List Int) : codeN (a ++ b) = codeN a * 4 ^ b.length + codeN b := by
  rw [codeN, List.foldl_append]; exact foldl_code b _
theorem codeN_cons (x : Int) (b : List Int) : codeN (x :: b) = x.toNat * 4 ^ b.length + codeN b := by
  have := codeN_append [x] b
  simpa [codeN] using this
theorem codeN_lt {b : List Int} (h : ∀ x ∈ b, 0 ≤ x ∧ x ≤ 3) : codeN b < 4 ^ b.length := by
  induction b with
  | nil => simp [codeN]
  | cons x b ih =>
    have h1 := h x (by simp)
    have h2 := ih (fun y hy => h y (by simp [hy]))
    rw [codeN_cons, List.length_cons, Nat.pow_succ]
    have h3 : x.toNat * 4 ^ b.length ≤ 3 * 4 ^ b.length := Nat.mul_le_mul_right _ (by omega)
    omega
theorem codeN_le {b M : List Int} (hl : b.length = M.length) (h : ∀ (i : Nat) (x y : Int), b[i]? = some x → M[i]? = some y → x ≤ y) : codeN b ≤ codeN M := by
  induction b generalizing M with
  | nil => simp [codeN]
  | cons x b ih =>
    cases M with
    | nil => simp at hl
    | cons y M =>
      have h1 := h 0 x y (by simp) (by simp)
      have h2 := ih (M := M) (by simpa using hl) (fun i x' y' hx hy => h (i + 1) x' y' (by simpa using hx) (by simpa using hy))
      rw [codeN_cons, codeN_cons]
      have h3 : b.length = M.length := by simpa using hl
      rw [h3]
      have h4 : x.toNat * 4 ^ M.length ≤ y.toNat * 4 ^ M.length := Nat.mul_le_mul_right _ (by omega)
      omega
theorem digs_add (k r s : Nat) : digs k (r + s) = digs (k / 4 ^ s) r ++ digs k s := by
  induction s generalizing k with
  | zero => simp [digs]
  | succ s ih =>
    show digs (k / 4) (r + s) ++ [((k % 4 : Nat) : Int)] = _
    rw [ih, Nat.div_div_eq_div_mul, Nat.pow_succ, Nat.mul_comm 4, List.append_assoc]
    rfl
theorem codeN_digs (k s : Nat) : codeN (digs k s) = k % 4 ^ s := by
  induction s generalizing k with
  | zero => simp [digs, codeN, Nat.mod_one]
  | succ s ih =>
    show codeN (digs (k / 4) s ++ [((k % 4 : Nat) : Int)]) = _
    rw [codeN_append, ih, Nat.pow_succ]
    simp only [codeN, List.foldl_cons, List.foldl_nil, List.length_cons, List.length_nil, Int.toNat_natCast]
    rw [Nat.mul_comm (4 ^ s) 4, Nat.mod_mul]
    omega
theorem digs_codeN {c : List Int} (h : ∀ x ∈ c, 0 ≤ x ∧ x ≤ 3) : digs (codeN c) c.length = c := by
  have key : ∀ (r : List Int), (∀ x ∈ r, 0 ≤ x ∧ x ≤ 3) → digs (codeN r.reverse) r.length = r.reverse := by
    intro r
    induction r with
    | nil => intro _; rfl
    | cons x r ih =>
      intro h
      have h1 := h x (by simp)
      have h2 := ih (fun y hy => h y (by simp [hy]))
      rw [List.reverse_cons, codeN_append, List.length_cons]
      show digs _ _ ++ _ = _
      simp only [codeN, List.foldl_cons, List.foldl_nil, List.length_nil, Nat.zero_mul, Nat.zero_add, Nat.pow_one]
      change digs ((codeN r.reverse * 4 + x.toNat) / 4) r.length ++ [(((codeN r.reverse * 4 + x.toNat) % 4 : Nat) : Int)] = _
      rw [show (codeN r.reverse * 4 + x.toNat) / 4 = codeN r.reverse by omega, show (codeN r.reverse * 4 + x.toNat) % 4 = x.toNat by omega, h2]
      congr 2
      omega
  have := key c.reverse (fun x hx => h x (by simpa using hx))
  simpa using this
theorem codeZ_codeN {c : List Int} (h : ∀ x ∈ c, 0 ≤ x ∧ x ≤ 3) : codeZ c = (codeN c : Int) := by
  have key : ∀ (c : List Int), (∀ x ∈ c, 0 ≤ x ∧ x ≤ 3) → ∀ n : Nat, c.foldl (fun n x => n * 4 + x) (n : Int) = ((c.foldl (fun n x => n * 4 + x.toNat) n : Nat) : Int) := by
    intro c
    induction c with
    | nil => intro _ n; rfl
    | cons x c ih =>
      intro h n
      have h1 := h x (by simp)
      simp only [List.foldl_cons]
      rw [← ih (fun y hy => h y (by simp [hy]))]
      congr 1
      omega
  exact key c h 0

theorem inB_iff {o : List Nat} {c : List Int} : inB o c = true ↔ ∀ (i : Nat) (x : Int), c[i]? = some x → 0 ≤ x ∧ x < ((o[i]?.getD 0 : Nat) : Int) := by
  unfold inB
  rw [List.all_eq_true]
  constructor
  · intro h i x hx
    have := h i (by simpa using lt_of_some hx)
    simpa [digB, hx] using this
  · intro h i hi
    have hi' : i < c.length := by simpa using hi
    have := h i _ (List.getElem?_eq_getElem hi')
    simpa [digB, List.getElem?_eq_getElem hi'] using this

/-- Behind a configuration that ends in greatest choices, none is there up to where the digit before these rises. -/
theorem inB_gap {o : List Nat} {a maxs : List Int} {k : Nat} (hm : ∀ (j : Nat) (y : Int), maxs[j]? = some y → o[a.length + j]?.getD 0 ≤ (y + 1).toNat ∧ 0 ≤ y) (hM : ∀ x ∈ maxs, 0 ≤ x ∧ x ≤ 3)
    (h1 : codeN (a ++ maxs) < k) (h2 : k < (codeN a + 1) * 4 ^ maxs.length) : inB o (digs k (a.length + maxs.length)) = false := by
  rw [← Bool.not_eq_true]
  intro hin
  rw [inB_iff] at hin
  have hpos : 0 < 4 ^ maxs.length := Nat.pow_pos (by omega)
  have hc := codeN_lt hM
  rw [codeN_append] at h1
  have hmod : codeN (digs k maxs.length) = k % 4 ^ maxs.length := codeN_digs _ _
  have hle : codeN (digs k maxs.length) ≤ codeN maxs := by
    refine codeN_le (digs_length _ _) fun i x y hx hy => ?_
    have h3 : (digs k (a.length + maxs.length))[a.length + i]? = some x := by
      rw [digs_add, List.getElem?_append_right (by rw [digs_length]; omega), digs_length]
      simpa using hx
    have h4 := hin _ x h3
    have h5 := hm i y hy
    omega
  have hdiv : k / 4 ^ maxs.length = codeN a := by
    apply Nat.div_eq_of_lt_le
    · omega
    · exact h2
  have := Nat.div_add_mod k (4 ^ maxs.length)
  rw [hdiv, Nat.mul_comm] at this
  omega
theorem allUpto_gap {S : Src} {j k : Nat} (hjk : j ≤ k) (h : ∀ i, j ≤ i → i < k → permB S (digs i S.options.length) = false) : allUpto S k = allUpto S j := by
  induction k with
  | zero => have : j = 0 := by omega
            rw [this]
  | succ k ih =>
    by_cases hk : j = k + 1
    · rw [hk]
    · rw [allUpto_no (h k (by omega) (by omega))]
      exact ih (by omega) (fun i h1 h2 => h i h1 (by omega))
theorem permB_notin {S : Src} {c : List Int} (h : inB S.options c = false) : permB S c = false := by simp [permB, h]

/-- from a configuration whose last choices are the greatest to the next one -/
theorem next_all {S : Src} {a maxs : List Int} {x : Int} (hl : S.options.length = a.length + 1 + maxs.length) (hm : ∀ (j : Nat) (y : Int), maxs[j]? = some y → S.options[a.length + 1 + j]?.getD 0 ≤ (y + 1).toNat ∧ 0 ≤ y) (hM : ∀ x ∈ maxs, 0 ≤ x ∧ x ≤ 3) (hx : 0 ≤ x) :
    allUpto S (codeN (a ++ (x + 1) :: List.replicate maxs.length 0)) = allUpto S (codeN (a ++ x :: maxs) + 1) := by
  have hz : codeN (List.replicate maxs.length (0 : Int)) = 0 := by
    induction maxs.length with
    | zero => rfl
    | succ n ih => rw [List.replicate_succ, codeN_cons, ih]; simp
  have e1 : a ++ (x + 1) :: List.replicate maxs.length (0 : Int) = (a ++ [x + 1]) ++ List.replicate maxs.length 0 := by simp
  have e2 : a ++ x :: maxs = (a ++ [x]) ++ maxs := by simp
  have c1 : codeN (a ++ (x + 1) :: List.replicate maxs.length (0 : Int)) = (codeN (a ++ [x]) + 1) * 4 ^ maxs.length := by
    rw [e1, codeN_append, hz, codeN_append, codeN_append]
    simp only [List.length_replicate, codeN, List.foldl_cons, List.foldl_nil, List.length_cons, List.length_nil]
    rw [show (x + 1).toNat = x.toNat + 1 by omega]
    simp [Nat.add_assoc]
  have hlt := codeN_lt hM
  have c2 : codeN (a ++ x :: maxs) = codeN (a ++ [x]) * 4 ^ maxs.length + codeN maxs := by rw [e2, codeN_append]
  refine allUpto_gap ?_ fun i h1 h2 => permB_notin ?_
  · rw [c1, c2, Nat.add_mul]; omega
  · have := inB_gap (o := S.options) (a := a ++ [x]) (maxs := maxs) (k := i) (by intro j y hy; simpa using hm j y hy) hM (by rw [← e2]; omega) (by rw [← c1]; exact h2)
    rwa [show (a ++ [x]).length + maxs.length = S.options.length by simp [hl]] at this
/-- the last one -/
theorem last_all {S : Src} {maxs : List Int} (hl : S.options.length = maxs.length) (hm : ∀ (j : Nat) (y : Int), maxs[j]? = some y → S.options[j]?.getD 0 ≤ (y + 1).toNat ∧ 0 ≤ y) (hM : ∀ x ∈ maxs, 0 ≤ x ∧ x ≤ 3) :
    allUpto S (4 ^ S.options.length) = allUpto S (codeN maxs + 1) := by
  have hlt := codeN_lt hM
  refine allUpto_gap (by rw [hl]; omega) fun i h1 h2 => permB_notin ?_
  have := inB_gap (o := S.options) (a := []) (maxs := maxs) (k := i) (by intro j y hy; simpa using hm j y hy) hM (by simp; omega) (by rw [hl] at h2; simpa [codeN] using h2)
  simpa [hl] using this
end Go.Proofs.Ytpbajggbinljiaa
