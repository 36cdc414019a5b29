/- Digits of numbers; remainders; irreducible polynomials. Plain Lean; no condition. -/
import Derived.Test.YtafaecpmffmfgaaAlgX
namespace Go.Proofs.Ytafaecpmffmfgaa

/-! digits of numbers; remainders; irreducible polynomials; products of numbers -/
def digL (p : Int) : Nat → Int → List Int
  | 0, _ => []
  | k + 1, a => a % p :: digL p k (a / p)
def numL (p : Int) : List Int → Int
  | [] => 0
  | d :: r => numL p r * p + d
section
variable {p : Int}
theorem digL_len (k : Nat) : ∀ a, (digL p k a).length = k := by
  induction k with
  | zero => intro a; rfl
  | succ k ih => intro a; rw [digL, List.length_cons, ih]
theorem digL_mod (hp : 0 < p) (k : Nat) : ∀ a, InMod p (digL p k a) := by
  induction k with
  | zero => intro a x h; simp [digL] at h
  | succ k ih =>
    intro a x h
    rw [digL] at h
    rcases List.mem_cons.1 h with rfl | h
    · exact ⟨Int.emod_nonneg _ (by omega), Int.emod_lt_of_pos _ hp⟩
    · exact ih _ x h
theorem numL_nonneg (hp : 0 < p) : ∀ xs, InMod p xs → 0 ≤ numL p xs ∧ numL p xs < p ^ xs.length
  | [], _ => by simp [numL]
  | d :: r, h => by
    have hd := h d (List.mem_cons_self ..)
    have hr := numL_nonneg hp r (fun x hx => h x (List.mem_cons_of_mem _ hx))
    rw [numL, List.length_cons, Int.pow_succ]
    constructor
    · have := Int.mul_nonneg hr.1 (show 0 ≤ p by omega); omega
    · have : (numL p r + 1) * p ≤ p ^ r.length * p := Int.mul_le_mul_of_nonneg_right (by omega) (by omega)
      rw [Int.add_mul, Int.one_mul] at this
      omega
theorem pow_pos' (hp : 0 < p) (k : Nat) : 0 < p ^ k := by
  induction k with
  | zero => simp
  | succ k ih => rw [Int.pow_succ]; exact Int.mul_pos ih hp
theorem numL_dig (hp : 0 < p) (k : Nat) : ∀ a, 0 ≤ a → a < p ^ k → numL p (digL p k a) = a := by
  induction k with
  | zero => intro a h1 h2; simp at h2; simp [digL, numL]; omega
  | succ k ih =>
    intro a h1 h2
    rw [digL, numL, ih (a / p) (Int.ediv_nonneg h1 (by omega)) (Int.ediv_lt_of_lt_mul hp (by rw [← Int.pow_succ]; exact h2))]
    have := Int.mul_ediv_add_emod a p
    rw [Int.mul_comm] at this
    exact this
theorem dig_num (hp : 0 < p) : ∀ xs, InMod p xs → digL p xs.length (numL p xs) = xs
  | [], _ => rfl
  | d :: r, h => by
    have hd := h d (List.mem_cons_self ..)
    rw [List.length_cons, digL, numL, Int.add_comm, Int.add_mul_emod_self_right, Int.emod_eq_of_lt hd.1 hd.2, Int.add_mul_ediv_right _ _ (by omega), Int.ediv_eq_zero_of_lt hd.1 hd.2, Int.zero_add, dig_num hp r (fun x hx => h x (List.mem_cons_of_mem _ hx))]
theorem digL_get (k : Nat) : ∀ a j, j < k → (digL p k a).getD j 0 = (a / p ^ j) % p ∨ ¬ 0 < p := by
  induction k with
  | zero => intro a j h; omega
  | succ k ih =>
    intro a j h
    cases j with
    | zero => left; simp [digL]
    | succ j =>
      by_cases hp : 0 < p
      · rcases ih (a / p) j (by omega) with h1 | h1
        · left
          rw [digL, List.getD_cons_succ, h1, Int.ediv_ediv_of_nonneg (by omega), Int.pow_succ, Int.mul_comm]
        · exact absurd hp h1
      · exact .inr hp

/-! remainders -/
/-- The remainder of z by a polynomial with the leading coefficient 1. -/
def remL (p : Int) (by' z : List Int) : List Int := (premTo p by' (by'.length - 1) z (z.length - (by'.length - 1))).take (by'.length - 1)
theorem remL_mod (hp : 0 < p) (by' z : List Int) (h : InMod p z) : InMod p (remL p by' z) := by
  intro a ha
  exact premTo_mod hp _ _ h _ a (List.mem_of_mem_take ha)
theorem remL_len (by' z : List Int) : (remL p by' z).length = min (by'.length - 1) z.length := by
  unfold remL; rw [List.length_take, premTo_len]
theorem redTo_snoc (f : Int) (by' : List Int) (off : Nat) (r : List Int) (t : Int) : ∀ j, off + j ≤ r.length → redTo p f by' off j (r ++ [t]) = redTo p f by' off j r ++ [t]
  | 0, _ => rfl
  | j + 1, h => by
    rw [redTo, redTo, redTo_snoc f by' off r t j (by omega)]
    have hl : off + j < (redTo p f by' off j r).length := by rw [redTo_len]; omega
    rw [List.set_append_left _ _ hl]
    congr 2
    simp only [List.getD]
    rw [List.getElem?_append_left hl]
theorem redTo_zero (by' : List Int) (off : Nat) (r : List Int) (h : InMod p r) : ∀ j, off + j ≤ r.length → redTo p 0 by' off j r = r
  | 0, _ => rfl
  | j + 1, hj => by
    have hl : off + j < r.length := by omega
    have hm := h r[off + j] (List.getElem_mem hl)
    rw [redTo, redTo_zero by' off r h j (by omega), getD_get _ _ hl, Int.zero_mul, Int.sub_zero, Int.emod_eq_of_lt hm.1 hm.2, List.set_getElem_self]
theorem premTo_snoc (by' : List Int) (D : Nat) (z : List Int) (h : InMod p (z ++ [0])) : ∀ m, m + D ≤ z.length → premTo p by' D (z ++ [0]) (m + 1) = premTo p by' D z m ++ [0]
  | 0, hm => by
    rw [premTo, premTo, premTo]
    have e : (z ++ [0]).length - 1 - 0 = z.length := by simp
    have e2 : (z ++ [0]).getD z.length 0 = 0 := by simp [List.getD]
    rw [e, e2, redTo_zero _ _ _ h _ (by simp; omega)]
  | m + 1, hm => by
    have ih := premTo_snoc by' D z h m (by omega)
    rw [premTo, ih]
    have e : (z ++ [0]).length - 1 - (m + 1) = z.length - 1 - m := by simp; omega
    have e2 : (premTo p by' D z m ++ [0]).getD (z.length - 1 - m) 0 = (premTo p by' D z m).getD (z.length - 1 - m) 0 := by
      simp only [List.getD]; rw [List.getElem?_append_left (by rw [premTo_len]; omega)]
    rw [e, e2, redTo_snoc _ _ _ _ _ _ (by rw [premTo_len]; omega)]
    conv => rhs; rw [premTo]
theorem convIn_snoc (x : Int) (y : List Int) (i : Nat) (r : List Int) (t : Int) (j : Nat) (h : i + j ≤ r.length) : convIn p x y i j (r ++ [t]) = convIn p x y i j r ++ [t] := by
  rw [convIn_red, convIn_red, redTo_snoc _ _ _ _ _ _ h]
theorem convTo_snoc (x y z : List Int) (t : Int) : ∀ i, i + y.length ≤ z.length + 1 → convTo p x y (z ++ [t]) i = convTo p x y z i ++ [t]
  | 0, _ => rfl
  | i + 1, h => by rw [convTo, convTo, convTo_snoc x y z t i (by omega), convIn_snoc _ _ _ _ _ _ (by rw [convTo_len]; omega)]
/-- The product as the reference has it: one place less. -/
theorem mulL_short (hp : 0 < p) (cs x y : List Int) (hD : 1 ≤ cs.length) (hx : x.length = cs.length) (hy : y.length = cs.length) :
    mulL p cs x y = remL p (cs ++ [1]) (convTo p x y (List.replicate (2 * cs.length - 1) 0) x.length) := by
  have e : List.replicate (2 * cs.length) (0 : Int) = List.replicate (2 * cs.length - 1) 0 ++ [0] := by
    obtain ⟨n, hn⟩ : ∃ n, 2 * cs.length = n + 1 := ⟨2 * cs.length - 1, by omega⟩
    rw [hn, List.replicate_succ', Nat.add_sub_cancel]
  obtain ⟨d, hd⟩ : ∃ d, cs.length = d + 1 := ⟨cs.length - 1, by omega⟩
  have hl : (convTo p x y (List.replicate (2 * cs.length - 1) 0) x.length).length = 2 * cs.length - 1 := by rw [convTo_len, List.length_replicate]
  unfold mulL remL
  rw [e, convTo_snoc _ _ _ _ _ (by rw [List.length_replicate]; omega)]
  have hm : InMod p (convTo p x y (List.replicate (2 * cs.length - 1) 0) x.length ++ [0]) := by
    intro a ha
    rcases List.mem_append.1 ha with ha | ha
    · exact convTo_mod hp _ _ _ (InMod_repl hp _) _ a ha
    · rw [List.mem_singleton] at ha; subst ha; omega
  generalize convTo p x y (List.replicate (2 * cs.length - 1) 0) x.length = z at *
  have h2 := premTo_snoc (cs ++ [1]) cs.length z hm (cs.length - 1) (by omega)
  rw [show cs.length - 1 + 1 = cs.length from by omega] at h2
  rw [h2, List.length_append, List.length_singleton, Nat.add_sub_cancel, hl, show 2 * cs.length - 1 - cs.length = cs.length - 1 from by omega]
  rw [List.take_append_of_le_length (by rw [premTo_len]; omega)]
/-- The product as the program has it. -/
theorem mulL_long (cs x y : List Int) : mulL p cs x y = remL p (cs ++ [1]) (convTo p x y (List.replicate (2 * cs.length) 0) x.length) := by
  unfold mulL remL
  rw [convTo_len, List.length_replicate, List.length_append, List.length_singleton, Nat.add_sub_cancel, show 2 * cs.length - cs.length = cs.length from by omega]

/-! irreducible polynomials -/
def zeroB (l : List Int) : Bool := l.all (fun x => x == 0)
def divB (p : Int) (poly : List Int) (d : Nat) (n : Nat) : Bool := zeroB (remL p (digL p d (n : Int) ++ [1]) poly)
def irrB (p : Int) (poly : List Int) : Bool := (List.range ((poly.length - 1) / 2)).all fun d => (List.range (p ^ (d + 1)).toNat).all fun n => !divB p poly (d + 1) n
theorem numL_zero (hp : 0 < p) : ∀ l, InMod p l → (numL p l = 0 ↔ zeroB l = true)
  | [], _ => by simp [numL, zeroB]
  | d :: r, h => by
    have hd := h d (List.mem_cons_self ..)
    have hr := numL_nonneg hp r (fun x hx => h x (List.mem_cons_of_mem _ hx))
    have ih := numL_zero hp r (fun x hx => h x (List.mem_cons_of_mem _ hx))
    rw [numL]
    simp only [zeroB, List.all_cons, Bool.and_eq_true, beq_iff_eq] at *
    rw [← ih]
    constructor
    · intro h0
      have h1 := Int.mul_nonneg hr.1 (show 0 ≤ p by omega)
      have h2 : d = 0 := by omega
      refine ⟨h2, ?_⟩
      have h3 : numL p r * p = 0 := by omega
      rcases Int.mul_eq_zero.1 h3 with h3 | h3
      · exact h3
      · omega
    · rintro ⟨rfl, h0⟩; rw [h0]; simp
/-- Half way: no divisor of a lesser degree than d + 1; none of the degree d + 1 below n. -/
def irrMid (p : Int) (poly : List Int) (d n : Nat) : Prop := (∀ d', d' < d → ∀ n' : Nat, (n' : Int) < p ^ (d' + 1) → divB p poly (d' + 1) n' = false) ∧ ∀ n', n' < n → divB p poly (d + 1) n' = false
theorem irrMid_start (poly : List Int) : irrMid p poly 0 0 := ⟨fun d h => by omega, fun n h => by omega⟩
theorem irrMid_next {poly : List Int} {d n : Nat} (h : irrMid p poly d n) (h2 : divB p poly (d + 1) n = false) : irrMid p poly d (n + 1) :=
  ⟨h.1, fun n' hn => by by_cases e : n' = n; · subst e; exact h2
                        · exact h.2 n' (by omega)⟩
theorem irrMid_deg {poly : List Int} {d n : Nat} (h : irrMid p poly d n) (hn : p ^ (d + 1) ≤ (n : Int)) : irrMid p poly (d + 1) 0 :=
  ⟨fun d' hd n' hn' => by by_cases e : d' = d; · subst e; exact h.2 n' (by omega)
                          · exact h.1 d' (by omega) n' hn', fun n h => by omega⟩
theorem irrMid_hit (hp : 0 < p) {poly : List Int} {d n : Nat} (hd : 2 * (d + 1) ≤ poly.length - 1) (hn : (n : Int) < p ^ (d + 1)) (h : divB p poly (d + 1) n = true) : irrB p poly = false := by
  cases hi : irrB p poly
  · rfl
  · have h1 := (List.all_eq_true.1 hi) d (by rw [List.mem_range]; omega)
    have h2 := (List.all_eq_true.1 h1) n (by rw [List.mem_range]; have := pow_pos' hp (d + 1); omega)
    rw [h] at h2; simp at h2
theorem irrMid_end {poly : List Int} {d : Nat} (h : irrMid p poly d 0) (hd : ¬ 2 * (d + 1) ≤ poly.length - 1) : irrB p poly = true := by
  refine List.all_eq_true.2 fun d' hd' => List.all_eq_true.2 fun n hn => ?_
  rw [List.mem_range] at hd' hn
  rw [h.1 d' (by omega) n (by omega)]; rfl
end

end Go.Proofs.Ytafaecpmffmfgaa
