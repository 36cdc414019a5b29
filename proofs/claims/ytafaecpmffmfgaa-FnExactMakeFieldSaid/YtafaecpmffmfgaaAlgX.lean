/- Products of polynomials modulo one, as lists of digits: commutative, associative. Plain Lean; no condition. -/
import Derived.Test.YtafaecpmffmfgaaBase
namespace Go.Proofs.Ytafaecpmffmfgaa

/-! vectors: functions of the place; X: times x modulo the polynomial x^D + c -/
abbrev Vec := Nat → Int
def vX (D : Nat) (c : Vec) (v : Vec) : Vec := fun i => if i < D then (if i = 0 then 0 else v (i - 1)) - v (D - 1) * c i else 0
def vadd (u v : Vec) : Vec := fun i => u i + v i
def vsmul (a : Int) (v : Vec) : Vec := fun i => a * v i
def vzero : Vec := fun _ => 0
theorem vX_add (D : Nat) (c u v : Vec) : vX D c (vadd u v) = vadd (vX D c u) (vX D c v) := by
  funext i
  simp only [vX, vadd]
  split
  · split
    · rw [Int.add_mul]; omega
    · rw [Int.add_mul]; omega
  · omega
theorem vX_smul (D : Nat) (c v : Vec) (a : Int) : vX D c (vsmul a v) = vsmul a (vX D c v) := by
  funext i
  simp only [vX, vsmul]
  split
  · split
    · rw [Int.mul_sub, Int.mul_assoc, Int.mul_zero]
    · rw [Int.mul_sub, Int.mul_assoc]
  · simp
theorem vX_zero (D : Nat) (c : Vec) : vX D c vzero = vzero := by
  funext i; simp only [vX, vzero]; split <;> simp
theorem vadd_comm (u v : Vec) : vadd u v = vadd v u := by funext i; simp only [vadd]; omega
theorem vadd_assoc (u v w : Vec) : vadd (vadd u v) w = vadd u (vadd v w) := by funext i; simp only [vadd]; omega
theorem vadd_zero (u : Vec) : vadd u vzero = u := by funext i; simp [vadd, vzero]
theorem zero_vadd (u : Vec) : vadd vzero u = u := by funext i; simp [vadd, vzero]
theorem vsmul_add (a : Int) (u v : Vec) : vsmul a (vadd u v) = vadd (vsmul a u) (vsmul a v) := by funext i; simp only [vadd, vsmul]; rw [Int.mul_add]
theorem add_vsmul (a b : Int) (u : Vec) : vsmul (a + b) u = vadd (vsmul a u) (vsmul b u) := by funext i; simp only [vadd, vsmul]; rw [Int.add_mul]
theorem vsmul_vsmul (a b : Int) (u : Vec) : vsmul a (vsmul b u) = vsmul (a * b) u := by funext i; simp only [vsmul]; rw [Int.mul_assoc]
theorem vsmul_zero (a : Int) : vsmul a vzero = vzero := by funext i; simp [vsmul, vzero]
theorem zero_vsmul (u : Vec) : vsmul 0 u = vzero := by funext i; simp [vsmul, vzero]

/-- The polynomial z, at X, of w. -/
def vH (D : Nat) (c : Vec) : List Int → Vec → Vec
  | [], _ => vzero
  | a :: z, w => vadd (vsmul a w) (vX D c (vH D c z w))
section
variable {D : Nat} {c : Vec}
theorem vH_add (z : List Int) (u v : Vec) : vH D c z (vadd u v) = vadd (vH D c z u) (vH D c z v) := by
  induction z with
  | nil => simp [vH, vadd_zero]
  | cons a z ih =>
    rw [vH, vH, vH, ih, vX_add, vsmul_add, vadd_assoc, vadd_assoc]
    congr 1
    rw [← vadd_assoc, ← vadd_assoc, vadd_comm (vX D c (vH D c z u))]
theorem vH_smul (z : List Int) (a : Int) (v : Vec) : vH D c z (vsmul a v) = vsmul a (vH D c z v) := by
  induction z with
  | nil => simp [vH, vsmul_zero]
  | cons b z ih => rw [vH, vH, ih, vX_smul, vsmul_add, vsmul_vsmul, vsmul_vsmul, Int.mul_comm]
theorem vH_X (z : List Int) (v : Vec) : vH D c z (vX D c v) = vX D c (vH D c z v) := by
  induction z with
  | nil => simp [vH, vX_zero]
  | cons b z ih => rw [vH, vH, ih, vX_add, vX_smul]
theorem vH_zero (z : List Int) : vH D c z vzero = vzero := by
  induction z with
  | nil => rfl
  | cons a z ih => rw [vH, ih, vX_zero, vsmul_zero, vadd_zero]
theorem vH_swap (y z : List Int) (w : Vec) : vH D c y (vH D c z w) = vH D c z (vH D c y w) := by
  induction z with
  | nil => simp [vH, vH_zero]
  | cons a z ih => rw [vH, vH, vH_add, vH_smul, vH_X, ih]
theorem vH_cons_zero (z : List Int) (w : Vec) : vH D c (0 :: z) w = vX D c (vH D c z w) := by rw [vH, zero_vsmul, zero_vadd]

/-- X, n times. -/
def vXn (D : Nat) (c : Vec) : Nat → Vec → Vec
  | 0, v => v
  | n + 1, v => vX D c (vXn D c n v)
theorem vXn_smul (n : Nat) (a : Int) (v : Vec) : vXn D c n (vsmul a v) = vsmul a (vXn D c n v) := by
  induction n with
  | zero => rfl
  | succ n ih => rw [vXn, vXn, ih, vX_smul]
theorem vXn_add (n : Nat) (u v : Vec) : vXn D c n (vadd u v) = vadd (vXn D c n u) (vXn D c n v) := by
  induction n with
  | zero => rfl
  | succ n ih => rw [vXn, vXn, vXn, ih, vX_add]
theorem vXn_X (n : Nat) (v : Vec) : vXn D c n (vX D c v) = vX D c (vXn D c n v) := by
  induction n with
  | zero => rfl
  | succ n ih => rw [vXn, vXn, ih]
theorem vXn_vXn (m n : Nat) (v : Vec) : vXn D c m (vXn D c n v) = vXn D c (m + n) v := by
  induction m with
  | zero => simp [vXn]
  | succ m ih => rw [vXn, ih, Nat.succ_add, vXn]
theorem vXn_H (n : Nat) (z : List Int) (v : Vec) : vXn D c n (vH D c z v) = vH D c z (vXn D c n v) := by
  induction n with
  | zero => rfl
  | succ n ih => rw [vXn, vXn, ih, vH_X]
/-- A place of the polynomial is changed. -/
theorem vH_set (z : List Int) (k : Nat) (h : k < z.length) (t : Int) (w : Vec) : vH D c (z.set k (z[k] + t)) w = vadd (vH D c z w) (vsmul t (vXn D c k w)) := by
  induction z generalizing k with
  | nil => simp at h
  | cons a z ih =>
    cases k with
    | zero =>
      simp only [List.set_cons_zero, List.getElem_cons_zero, vH, vXn]
      rw [add_vsmul, vadd_assoc, vadd_assoc]
      congr 1
      exact vadd_comm _ _
    | succ k =>
      simp only [List.set_cons_succ, List.getElem_cons_succ, vH]
      rw [ih k (by simpa using h), vX_add, vX_smul, ← vadd_assoc]
      rfl
end
section
variable {D : Nat} {c : Vec} {p : Int}
/-- Equal modulo p. -/
def veq (p : Int) (u v : Vec) : Prop := ∀ i, u i % p = v i % p
theorem veq.rfl' (u : Vec) : veq p u u := fun _ => rfl
theorem veq.trans' {u v w : Vec} (h : veq p u v) (k : veq p v w) : veq p u w := fun i => (h i).trans (k i)
theorem veq.symm' {u v : Vec} (h : veq p u v) : veq p v u := fun i => (h i).symm
theorem veq_add {u v u' v' : Vec} (h : veq p u v) (k : veq p u' v') : veq p (vadd u u') (vadd v v') := fun i => by
  simp only [vadd]; rw [Int.add_emod, h i, k i, ← Int.add_emod]
theorem veq_smul {u v : Vec} (a : Int) (h : veq p u v) : veq p (vsmul a u) (vsmul a v) := fun i => by
  simp only [vsmul]; rw [Int.mul_emod, h i, ← Int.mul_emod]
theorem veq_smul' {a b : Int} (u : Vec) (h : a % p = b % p) : veq p (vsmul a u) (vsmul b u) := fun i => by
  simp only [vsmul]; rw [Int.mul_emod, h, ← Int.mul_emod]
theorem veq_X {u v : Vec} (h : veq p u v) : veq p (vX D c u) (vX D c v) := fun i => by
  simp only [vX]
  split
  · have h1 : u (D - 1) * c i % p = v (D - 1) * c i % p := by rw [Int.mul_emod, h (D - 1), ← Int.mul_emod]
    split
    · rw [Int.sub_emod, h1, ← Int.sub_emod]
    · rw [Int.sub_emod, h1, h (i - 1), ← Int.sub_emod]
  · rfl
theorem veq_Xn {u v : Vec} (n : Nat) (h : veq p u v) : veq p (vXn D c n u) (vXn D c n v) := by
  induction n with
  | zero => exact h
  | succ n ih => exact veq_X ih
theorem veq_H {u v : Vec} (z : List Int) (h : veq p u v) : veq p (vH D c z u) (vH D c z v) := by
  induction z with
  | nil => exact veq.rfl' _
  | cons a z ih => exact veq_add (veq_smul a h) (veq_X ih)

def e0 : Vec := fun i => if i = 0 then 1 else 0
def toV (l : List Int) : Vec := fun i => l.getD i 0
theorem toV_nil : toV [] = vzero := by funext i; simp [toV, vzero]
/-- A short list is its own vector. -/
theorem vH_e0 (z : List Int) (h : z.length ≤ D) : vH D c z e0 = toV z := by
  induction z with
  | nil => rw [vH, toV_nil]
  | cons a z ih =>
    have hl : z.length ≤ D - 1 ∧ 1 ≤ D := by simp at h; omega
    rw [vH, ih (by omega)]
    funext i
    have hd : toV z (D - 1) = 0 := by simp only [toV, List.getD]; rw [List.getElem?_eq_none (by omega)]; rfl
    simp only [vadd, vsmul, vX, hd, e0]
    cases i with
    | zero => simp [toV]
    | succ i =>
      by_cases hi : i + 1 < D
      · simp [toV, hi]
      · have : toV (a :: z) (i + 1) = 0 := by simp only [toV, List.getD, List.getElem?_cons_succ]; rw [List.getElem?_eq_none (by omega)]; rfl
        rw [this]; simp [hi]
theorem vH_append (y z : List Int) (w : Vec) : vH D c (y ++ z) w = vadd (vH D c y w) (vXn D c y.length (vH D c z w)) := by
  induction y with
  | nil => simp [vH, vXn, zero_vadd]
  | cons a y ih => rw [List.cons_append, vH, vH, ih, vX_add, vadd_assoc]; rfl
theorem vXn_e0 (k : Nat) (h : k < D) : vXn D c k e0 = fun i => if i = k then 1 else 0 := by
  have h1 : vH D c (List.replicate k 0 ++ [1]) e0 = toV (List.replicate k 0 ++ [1]) := vH_e0 _ (by simp; omega)
  have h2 : ∀ n : Nat, vH D c (List.replicate n 0) e0 = vzero := by
    intro n
    induction n with
    | zero => rfl
    | succ n ih => rw [List.replicate_succ, vH_cons_zero, ih, vX_zero]
  rw [vH_append, h2, zero_vadd, List.length_replicate] at h1
  have h3 : vH D c [1] e0 = e0 := by simp only [vH]; rw [vX_zero, vadd_zero]; funext i; simp [vsmul]
  rw [h3] at h1
  rw [h1]
  funext i
  simp only [toV, List.getD]
  by_cases hi : i < k
  · rw [List.getElem?_append_left (by simpa using hi)]; simp [hi, show i ≠ k from by omega]
  · rw [List.getElem?_append_right (by simpa using hi)]
    by_cases he : i = k
    · simp [he]
    · rw [List.getElem?_eq_none (by simp; omega)]; simp [he]
/-- The polynomial itself is zero at X. -/
theorem vH_poly (cs : List Int) (h : cs.length = D) (hD : 1 ≤ D) : vH D (toV cs) (cs ++ [1]) e0 = vzero := by
  rw [vH_append, vH_e0 _ (by omega), h]
  have h3 : vH D (toV cs) [1] e0 = e0 := by simp only [vH]; rw [vX_zero, vadd_zero]; funext i; simp [vsmul]
  obtain ⟨d, rfl⟩ : ∃ d, D = d + 1 := ⟨D - 1, by omega⟩
  rw [h3, vXn, vXn_e0 d (by omega)]
  funext i
  simp only [vadd, vX, vzero, toV]
  by_cases hi : i < d + 1
  · by_cases h0 : i = 0
    · simp [h0]; omega
    · simp [hi, h0, show ¬ i - 1 = d from by omega]; omega
  · rw [List.getD, List.getElem?_eq_none (by omega)]; simp [hi]

/-! the loops as the program runs them -/
def redTo (p f : Int) (by' : List Int) (off : Nat) : Nat → List Int → List Int
  | 0, r => r
  | j + 1, r => (redTo p f by' off j r).set (off + j) (((redTo p f by' off j r).getD (off + j) 0 - f * by'.getD j 0) % p)
theorem redTo_len (p f : Int) (by' : List Int) (off j : Nat) (r : List Int) : (redTo p f by' off j r).length = r.length := by
  induction j with
  | zero => rfl
  | succ j ih => rw [redTo, List.length_set, ih]
def InMod (p : Int) (r : List Int) : Prop := ∀ x ∈ r, 0 ≤ x ∧ x < p
theorem InMod.set {r : List Int} (h : InMod p r) (hp : 0 < p) (k : Nat) (x : Int) : InMod p (r.set k (x % p)) := by
  intro y hy
  rcases List.mem_or_eq_of_mem_set hy with h1 | rfl
  · exact h y h1
  · exact ⟨Int.emod_nonneg _ (by omega), Int.emod_lt_of_pos _ hp⟩
theorem redTo_mod (hp : 0 < p) (f : Int) (by' : List Int) (off j : Nat) (r : List Int) (h : InMod p r) : InMod p (redTo p f by' off j r) := by
  induction j with
  | zero => exact h
  | succ j ih => exact ih.set hp _ _
theorem getD_get (l : List Int) (k : Nat) (h : k < l.length) : l.getD k 0 = l[k] := by simp [List.getD, h]
theorem vH_set' (z : List Int) (k : Nat) (h : k < z.length) (x : Int) (w : Vec) : vH D c (z.set k x) w = vadd (vH D c z w) (vsmul (x - z[k]) (vXn D c k w)) := by
  rw [← vH_set z k h (x - z[k]) w]; congr 2; omega
theorem take_succ_get (l : List Int) (j : Nat) (h : j < l.length) : l.take (j + 1) = l.take j ++ [l[j]] := by
  rw [List.take_succ_eq_append_getElem h]
theorem redTo_H (f : Int) (by' : List Int) (off : Nat) (r : List Int) : ∀ j, j ≤ by'.length → off + j ≤ r.length →
    veq p (vH D c (redTo p f by' off j r) e0) (vadd (vH D c r e0) (vsmul (-f) (vXn D c off (vH D c (by'.take j) e0))))
  | 0, _, _ => by
    rw [redTo, List.take_zero, vH]
    have : ∀ n, vXn D c n vzero = vzero := by
      intro n
      induction n with
      | zero => rfl
      | succ n ih => rw [vXn, ih, vX_zero]
    rw [this, vsmul_zero, vadd_zero]; exact veq.rfl' _
  | j + 1, h1, h2 => by
    have ih := redTo_H f by' off r j (by omega) (by omega)
    have hk : off + j < (redTo p f by' off j r).length := by rw [redTo_len]; omega
    rw [redTo, vH_set' _ _ hk]
    rw [getD_get _ _ hk, getD_get _ _ (show j < by'.length by omega)]
    rw [take_succ_get _ _ (by omega), vH_append, List.length_take, Nat.min_eq_left (by omega)]
    have h3 : vH D c [by'[j]] e0 = vsmul by'[j] e0 := by simp only [vH]; rw [vX_zero, vadd_zero]
    rw [h3, vXn_add, vXn_smul j, vXn_smul off, vXn_vXn, vsmul_add, ← vadd_assoc, vsmul_vsmul]
    refine veq_add ih (veq_smul' _ ?_)
    rw [Int.sub_emod, Int.emod_emod, ← Int.sub_emod]
    congr 1
    rw [Int.neg_mul]; omega
end
section
variable {D : Nat} {c : Vec} {p : Int}
/-- The top m places are taken away, one after the other. by': the polynomial, D + 1 places. -/
def premTo (p : Int) (by' : List Int) (D : Nat) (z : List Int) : Nat → List Int
  | 0 => z
  | m + 1 => redTo p ((premTo p by' D z m).getD (z.length - 1 - m) 0) by' (z.length - 1 - m - D) (D + 1) (premTo p by' D z m)
theorem premTo_len (p : Int) (by' : List Int) (D : Nat) (z : List Int) (m : Nat) : (premTo p by' D z m).length = z.length := by
  induction m with
  | zero => rfl
  | succ m ih => rw [premTo, redTo_len, ih]
theorem premTo_mod (hp : 0 < p) (by' : List Int) (z : List Int) (h : InMod p z) (m : Nat) : InMod p (premTo p by' D z m) := by
  induction m with
  | zero => exact h
  | succ m ih => exact redTo_mod hp _ _ _ _ _ ih
theorem getD_set_ne (l : List Int) (i k : Nat) (x : Int) (h : i ≠ k) : (l.set k x).getD i 0 = l.getD i 0 := by
  simp only [List.getD]; rw [List.getElem?_set_ne (by omega)]
theorem getD_set_eq (l : List Int) (k : Nat) (x : Int) (h : k < l.length) : (l.set k x).getD k 0 = x := by
  simp only [List.getD]; rw [List.getElem?_set_self h]; rfl
theorem redTo_other (f : Int) (by' : List Int) (off : Nat) (r : List Int) (i : Nat) : ∀ j, (i < off ∨ off + j ≤ i) → (redTo p f by' off j r).getD i 0 = r.getD i 0
  | 0, _ => rfl
  | j + 1, h => by rw [redTo, getD_set_ne _ _ _ _ (by omega), redTo_other f by' off r i j (by omega)]
theorem redTo_at (f : Int) (by' : List Int) (off j : Nat) (r : List Int) (h : off + j < r.length) : (redTo p f by' off (j + 1) r).getD (off + j) 0 = (r.getD (off + j) 0 - f * by'.getD j 0) % p := by
  rw [redTo, getD_set_eq _ _ _ (by rw [redTo_len]; omega), redTo_other f by' off r (off + j) j (by omega)]
theorem premTo_top (cs : List Int) (hc : cs.length = D) (z : List Int) : ∀ m, m + D ≤ z.length → ∀ i, z.length - m ≤ i → (premTo p (cs ++ [1]) D z m).getD i 0 = 0
  | 0, _, i, h => by simp only [List.getD]; rw [premTo, List.getElem?_eq_none (by omega)]; rfl
  | m + 1, hm, i, h => by
    have ih := premTo_top cs hc z m (by omega)
    rw [premTo]
    by_cases hi : i = z.length - 1 - m
    · have e := redTo_at (p := p) ((premTo p (cs ++ [1]) D z m).getD (z.length - 1 - m) 0) (cs ++ [1]) (z.length - 1 - m - D) D (premTo p (cs ++ [1]) D z m) (by rw [premTo_len]; omega)
      rw [show z.length - 1 - m - D + D = z.length - 1 - m from by omega] at e
      rw [hi, e]
      have : (cs ++ [1]).getD D 0 = 1 := by simp only [List.getD]; rw [List.getElem?_append_right (by omega), hc]; simp
      rw [this]; simp
    · rw [redTo_other _ _ _ _ _ _ (by omega)]
      exact ih i (by omega)
theorem veq_zero_smul (a : Int) (n : Nat) : vsmul a (vXn D c n vzero) = vzero := by
  have : ∀ n, vXn D c n vzero = vzero := by
    intro n
    induction n with
    | zero => rfl
    | succ n ih => rw [vXn, ih, vX_zero]
  rw [this, vsmul_zero]
theorem premTo_H (cs : List Int) (hc : cs.length = D) (hD : 1 ≤ D) (z : List Int) : ∀ m, m + D ≤ z.length → veq p (vH D (toV cs) (premTo p (cs ++ [1]) D z m) e0) (vH D (toV cs) z e0)
  | 0, _ => veq.rfl' _
  | m + 1, hm => by
    rw [premTo]
    have h1 := redTo_H (D := D) (c := toV cs) (p := p) ((premTo p (cs ++ [1]) D z m).getD (z.length - 1 - m) 0) (cs ++ [1]) (z.length - 1 - m - D) (premTo p (cs ++ [1]) D z m) (D + 1) (by simp; omega) (by rw [premTo_len]; omega)
    rw [List.take_of_length_le (by simp; omega), vH_poly cs hc hD, veq_zero_smul, vadd_zero] at h1
    exact h1.trans' (premTo_H cs hc hD z m (by omega))

def convIn (p x : Int) (y : List Int) (i : Nat) : Nat → List Int → List Int
  | 0, r => r
  | j + 1, r => (convIn p x y i j r).set (i + j) (((convIn p x y i j r).getD (i + j) 0 + x * y.getD j 0) % p)
theorem convIn_len (p x : Int) (y : List Int) (i j : Nat) (r : List Int) : (convIn p x y i j r).length = r.length := by
  induction j with
  | zero => rfl
  | succ j ih => rw [convIn, List.length_set, ih]
theorem convIn_mod (hp : 0 < p) (x : Int) (y : List Int) (i j : Nat) (r : List Int) (h : InMod p r) : InMod p (convIn p x y i j r) := by
  induction j with
  | zero => exact h
  | succ j ih => exact ih.set hp _ _
theorem convIn_red (x : Int) (y : List Int) (i : Nat) (r : List Int) : ∀ j, convIn p x y i j r = redTo p (-x) y i j r
  | 0 => rfl
  | j + 1 => by rw [convIn, redTo, convIn_red x y i r j, Int.neg_mul, Int.sub_neg]
def convTo (p : Int) (x y : List Int) (z : List Int) : Nat → List Int
  | 0 => z
  | i + 1 => convIn p (x.getD i 0) y i y.length (convTo p x y z i)
theorem convTo_len (p : Int) (x y z : List Int) (i : Nat) : (convTo p x y z i).length = z.length := by
  induction i with
  | zero => rfl
  | succ i ih => rw [convTo, convIn_len, ih]
theorem convTo_mod (hp : 0 < p) (x y z : List Int) (h : InMod p z) (i : Nat) : InMod p (convTo p x y z i) := by
  induction i with
  | zero => exact h
  | succ i ih => exact convIn_mod hp _ _ _ _ _ ih
theorem convTo_H (x y z : List Int) (hz : x.length + y.length ≤ z.length + 1) (h0 : veq p (vH D c z e0) vzero) : ∀ i, i ≤ x.length → veq p (vH D c (convTo p x y z i) e0) (vH D c (x.take i) (vH D c y e0))
  | 0, _ => by rw [convTo, List.take_zero, vH]; exact h0
  | i + 1, hi => by
    have ih := convTo_H x y z hz h0 i (by omega)
    rw [convTo, convIn_red]
    have h1 := redTo_H (D := D) (c := c) (p := p) (-(x.getD i 0)) y i (convTo p x y z i) y.length (by omega) (by rw [convTo_len]; omega)
    rw [List.take_length, Int.neg_neg] at h1
    refine h1.trans' ?_
    rw [take_succ_get x i (by omega), vH_append, List.length_take, Nat.min_eq_left (by omega)]
    have h3 : vH D c [x[i]] (vH D c y e0) = vsmul x[i] (vH D c y e0) := by simp only [vH]; rw [vX_zero, vadd_zero]
    rw [h3, vXn_smul, getD_get x i (by omega)]
    exact veq_add ih (veq.rfl' _)

/-- The product of two short lists. -/
def mulL (p : Int) (cs : List Int) (x y : List Int) : List Int :=
  (premTo p (cs ++ [1]) cs.length (convTo p x y (List.replicate (2 * cs.length) 0) x.length) cs.length).take cs.length
theorem vH_repl (n : Nat) : vH D c (List.replicate n 0) e0 = vzero := by
  induction n with
  | zero => rfl
  | succ n ih => rw [List.replicate_succ, vH_cons_zero, ih, vX_zero]
theorem InMod_repl (hp : 0 < p) (n : Nat) : InMod p (List.replicate n 0) := by
  intro x hx; rw [(List.mem_replicate.1 hx).2]; omega
theorem mulL_len (cs x y : List Int) : (mulL p cs x y).length = cs.length := by
  unfold mulL; rw [List.length_take, premTo_len, convTo_len, List.length_replicate]; omega
theorem mulL_mod (hp : 0 < p) (cs x y : List Int) : InMod p (mulL p cs x y) := by
  intro a ha
  exact premTo_mod hp _ _ (convTo_mod hp _ _ _ (InMod_repl hp _) _) _ a (List.mem_of_mem_take ha)
theorem vH_zeros (z : List Int) (h : ∀ i, z.getD i 0 = 0) (w : Vec) : vH D c z w = vzero := by
  induction z with
  | nil => rfl
  | cons a z ih =>
    have h0 := h 0
    simp only [List.getD_cons_zero] at h0
    subst h0
    rw [vH_cons_zero, ih (fun i => by have := h (i + 1); simpa using this), vX_zero]
theorem mulL_H (cs x y : List Int) (hD : 1 ≤ cs.length) (hx : x.length = cs.length) (hy : y.length = cs.length) :
    veq p (toV (mulL p cs x y)) (vH cs.length (toV cs) x (toV y)) := by
  have hl : (convTo p x y (List.replicate (2 * cs.length) 0) x.length).length = 2 * cs.length := by rw [convTo_len, List.length_replicate]
  have h1 := premTo_H (p := p) cs rfl hD (convTo p x y (List.replicate (2 * cs.length) 0) x.length) cs.length (by rw [hl]; omega)
  have h2 := convTo_H (D := cs.length) (c := toV cs) (p := p) x y (List.replicate (2 * cs.length) 0) (by rw [List.length_replicate]; omega) (by rw [vH_repl]; exact veq.rfl' _) x.length (by omega)
  rw [List.take_length] at h2
  have h3 := h1.trans' h2
  rw [vH_e0 y (by omega)] at h3
  have ht := premTo_top (p := p) cs rfl (convTo p x y (List.replicate (2 * cs.length) 0) x.length) cs.length (by rw [hl]; omega)
  rw [hl] at ht
  have hz : (premTo p (cs ++ [1]) cs.length (convTo p x y (List.replicate (2 * cs.length) 0) x.length) cs.length).length = 2 * cs.length := by rw [premTo_len, hl]
  unfold mulL
  generalize premTo p (cs ++ [1]) cs.length (convTo p x y (List.replicate (2 * cs.length) 0) x.length) cs.length = z at *
  have h4 : vH cs.length (toV cs) z e0 = toV (z.take cs.length) := by
    have e : z = z.take cs.length ++ z.drop cs.length := (List.take_append_drop _ _).symm
    have h5 : vH cs.length (toV cs) (z.drop cs.length) e0 = vzero := vH_zeros _ (fun i => by
      have := ht (cs.length + i) (by omega)
      simpa [List.getD, List.getElem?_drop] using this) _
    rw [e, vH_append, h5, vH_e0 _ (by rw [List.length_take]; omega), ← e]
    have : ∀ n, vXn cs.length (toV cs) n vzero = vzero := by
      intro n
      induction n with
      | zero => rfl
      | succ n ih => rw [vXn, ih, vX_zero]
    rw [this, vadd_zero]
  rw [← h4]; exact h3
/-- Reduced lists that agree modulo p are equal. -/
theorem toV_inj {x y : List Int} (hl : x.length = y.length) (hx : InMod p x) (hy : InMod p y) (h : veq p (toV x) (toV y)) : x = y := by
  apply List.ext_getElem hl
  intro i h1 h2
  have := h i
  simp only [toV, getD_get _ _ h1, getD_get _ _ h2] at this
  have a := hx x[i] (List.getElem_mem h1)
  have b := hy y[i] (List.getElem_mem h2)
  rwa [Int.emod_eq_of_lt a.1 a.2, Int.emod_eq_of_lt b.1 b.2] at this
theorem mulL_comm (hp : 0 < p) (cs x y : List Int) (hD : 1 ≤ cs.length) (hx : x.length = cs.length) (hy : y.length = cs.length) : mulL p cs x y = mulL p cs y x := by
  refine toV_inj (by rw [mulL_len, mulL_len]) (mulL_mod hp _ _ _) (mulL_mod hp _ _ _) ?_
  refine (mulL_H cs x y hD hx hy).trans' (veq.trans' ?_ (mulL_H cs y x hD hy hx).symm')
  rw [← vH_e0 (D := cs.length) (c := toV cs) y (by omega), ← vH_e0 (D := cs.length) (c := toV cs) x (by omega), vH_swap]
  exact veq.rfl' _
theorem mulL_assoc (hp : 0 < p) (cs x y z : List Int) (hD : 1 ≤ cs.length) (hx : x.length = cs.length) (hy : y.length = cs.length) (hz : z.length = cs.length) :
    mulL p cs (mulL p cs x y) z = mulL p cs x (mulL p cs y z) := by
  rw [mulL_comm hp cs (mulL p cs x y) z hD (mulL_len _ _ _) hz]
  refine toV_inj (by rw [mulL_len, mulL_len]) (mulL_mod hp _ _ _) (mulL_mod hp _ _ _) ?_
  refine (mulL_H cs z _ hD hz (mulL_len _ _ _)).trans' (veq.trans' ?_ (mulL_H cs x _ hD hx (mulL_len _ _ _)).symm')
  refine (veq_H z (mulL_H cs x y hD hx hy)).trans' ?_
  refine veq.trans' ?_ (veq_H x (mulL_H cs y z hD hy hz)).symm'
  rw [vH_swap]
  have : vH cs.length (toV cs) z (toV y) = vH cs.length (toV cs) y (toV z) := by
    rw [← vH_e0 (D := cs.length) (c := toV cs) y (by omega), ← vH_e0 (D := cs.length) (c := toV cs) z (by omega), vH_swap]
  rw [this]; exact veq.rfl' _
end

end Go.Proofs.Ytafaecpmffmfgaa
