/- Products and powers of numbers in a field; what a generator gives. Plain Lean; no condition. -/
import Derived.Test.YtafaecpmffmfgaaFldMath
namespace Go.Proofs.Ytafaecpmffmfgaa

/-! products of numbers; powers; every valid field has a generator -/
def mulN (p : Int) (cs : List Int) (a b : Int) : Int := numL p (mulL p cs (digL p cs.length a) (digL p cs.length b))
def pwN (p : Int) (cs : List Int) (a : Int) : Nat → Int
  | 0 => 1
  | n + 1 => mulN p cs (pwN p cs a n) a
section
variable {p : Int} {cs : List Int}
theorem mulN_bd (hp : 0 < p) (a b : Int) : 0 ≤ mulN p cs a b ∧ mulN p cs a b < p ^ cs.length := by
  have := numL_nonneg hp (mulL p cs (digL p cs.length a) (digL p cs.length b)) (mulL_mod hp _ _ _)
  rw [mulL_len] at this
  exact this
theorem dig_mulN (hp : 0 < p) (a b : Int) : digL p cs.length (mulN p cs a b) = mulL p cs (digL p cs.length a) (digL p cs.length b) := by
  have := dig_num hp (mulL p cs (digL p cs.length a) (digL p cs.length b)) (mulL_mod hp _ _ _)
  rw [mulL_len] at this
  exact this
theorem mulN_comm (hp : 0 < p) (hD : 1 ≤ cs.length) (a b : Int) : mulN p cs a b = mulN p cs b a := by
  unfold mulN; rw [mulL_comm hp cs _ _ hD (digL_len _ _) (digL_len _ _)]
theorem mulN_assoc (hp : 0 < p) (hD : 1 ≤ cs.length) (a b c : Int) : mulN p cs (mulN p cs a b) c = mulN p cs a (mulN p cs b c) := by
  show numL p (mulL p cs (digL p cs.length (mulN p cs a b)) (digL p cs.length c)) = numL p (mulL p cs (digL p cs.length a) (digL p cs.length (mulN p cs b c)))
  rw [dig_mulN hp, dig_mulN hp, mulL_assoc hp cs _ _ _ hD (digL_len _ _) (digL_len _ _) (digL_len _ _)]
theorem digL_zero (hp : 0 < p) (k : Nat) : digL p k 0 = List.replicate k 0 := by
  induction k with
  | zero => rfl
  | succ k ih => rw [digL, Int.zero_ediv, ih, Int.zero_emod, List.replicate_succ]
theorem repl_getD (n i : Nat) : (List.replicate n (0 : Int)).getD i 0 = 0 := by
  simp only [List.getD]
  by_cases h : i < n
  · simp [h]
  · rw [List.getElem?_eq_none (by simp; omega)]; rfl
theorem mulN_one (hp : 2 ≤ p) (hD : 1 ≤ cs.length) {a : Int} (h0 : 0 ≤ a) (h1 : a < p ^ cs.length) : mulN p cs 1 a = a := by
  obtain ⟨d, hd⟩ : ∃ d, cs.length = d + 1 := ⟨cs.length - 1, by omega⟩
  have e1 : digL p cs.length 1 = 1 :: List.replicate d 0 := by
    rw [hd, digL, Int.emod_eq_of_lt (by omega) (by omega), Int.ediv_eq_zero_of_lt (by omega) (by omega), digL_zero (by omega)]
  have h := mulL_H (p := p) cs (digL p cs.length 1) (digL p cs.length a) hD (digL_len _ _) (digL_len _ _)
  have e2 : vH cs.length (toV cs) (digL p cs.length 1) (toV (digL p cs.length a)) = toV (digL p cs.length a) := by
    rw [e1, vH, vH_zeros _ (fun i => repl_getD _ i), vX_zero, vadd_zero]
    funext i; simp [vsmul]
  rw [e2] at h
  have := toV_inj (by rw [mulL_len, digL_len]) (mulL_mod (by omega) _ _ _) (digL_mod (by omega) _ _) h
  rw [mulN, this, numL_dig (by omega) _ _ h0 h1]
theorem mulN_one' (hp : 2 ≤ p) (hD : 1 ≤ cs.length) {a : Int} (h0 : 0 ≤ a) (h1 : a < p ^ cs.length) : mulN p cs a 1 = a := by
  rw [mulN_comm (by omega) hD, mulN_one hp hD h0 h1]
theorem mulN_zero (hp : 0 < p) (hD : 1 ≤ cs.length) (a : Int) : mulN p cs a 0 = 0 := by
  have h := mulL_H (p := p) cs (digL p cs.length a) (digL p cs.length 0) hD (digL_len _ _) (digL_len _ _)
  have e : toV (digL p cs.length 0) = vzero := by funext i; rw [digL_zero hp, toV, repl_getD]; rfl
  rw [e, vH_zero] at h
  have e2 : veq p (toV (mulL p cs (digL p cs.length a) (digL p cs.length 0))) (toV (List.replicate cs.length 0)) := by
    refine h.trans' ?_
    intro i; rw [toV, repl_getD]; rfl
  have := toV_inj (by rw [mulL_len, List.length_replicate]) (mulL_mod hp _ _ _) (InMod_repl hp _) e2
  rw [mulN, this, ← digL_zero hp cs.length, numL_dig hp _ _ (by omega) (pow_pos' hp _)]
theorem q_ge (hp : 2 ≤ p) (hD : 1 ≤ cs.length) : 2 ≤ p ^ cs.length := by
  obtain ⟨d, hd⟩ : ∃ d, cs.length = d + 1 := ⟨cs.length - 1, by omega⟩
  rw [hd, Int.pow_succ]
  have := pow_pos' (p := p) (by omega) d
  have : 1 * p ≤ p ^ d * p := Int.mul_le_mul_of_nonneg_right (by omega) (by omega)
  omega
theorem pwN_bd (hp : 2 ≤ p) (hD : 1 ≤ cs.length) (a : Int) (n : Nat) : 0 ≤ pwN p cs a n ∧ pwN p cs a n < p ^ cs.length := by
  cases n with
  | zero => have := q_ge hp hD; exact ⟨by simp [pwN], by rw [pwN]; omega⟩
  | succ n => exact mulN_bd (by omega) _ _
theorem pwN_add (hp : 2 ≤ p) (hD : 1 ≤ cs.length) (a : Int) (m : Nat) : ∀ n, pwN p cs a (m + n) = mulN p cs (pwN p cs a m) (pwN p cs a n)
  | 0 => by rw [pwN, Nat.add_zero, mulN_one' hp hD (pwN_bd hp hD a m).1 (pwN_bd hp hD a m).2]
  | n + 1 => by rw [← Nat.add_assoc, pwN, pwN, pwN_add hp hD a m n, mulN_assoc (by omega) hD]
theorem pwN_mul (hp : 2 ≤ p) (hD : 1 ≤ cs.length) (a : Int) (m : Nat) : ∀ n, pwN p cs (pwN p cs a m) n = pwN p cs a (m * n)
  | 0 => rfl
  | n + 1 => by rw [pwN, pwN_mul hp hD a m n, Nat.mul_succ, pwN_add hp hD]
theorem pwN_one (hp : 2 ≤ p) (hD : 1 ≤ cs.length) (n : Nat) : pwN p cs 1 n = 1 := by
  induction n with
  | zero => rfl
  | succ n ih => rw [pwN, ih, mulN_one hp hD (by omega) (by have := q_ge hp hD; omega)]
theorem pwN_1 (hp : 2 ≤ p) (hD : 1 ≤ cs.length) {a : Int} (h0 : 0 ≤ a) (h1 : a < p ^ cs.length) : pwN p cs a 1 = a := by
  rw [pwN, pwN, mulN_one hp hD h0 h1]
/-- Half way in the fast power. -/
def rzMid (p : Int) (cs : List Int) (a0 : Int) (n0 : Nat) (r a : Int) (n : Nat) : Prop :=
  mulN p cs r (pwN p cs a n) = pwN p cs a0 n0 ∧ 0 ≤ r ∧ r < p ^ cs.length ∧ 0 ≤ a ∧ a < p ^ cs.length
theorem rzMid_start (hp : 2 ≤ p) (hD : 1 ≤ cs.length) {a : Int} (h0 : 0 ≤ a) (h1 : a < p ^ cs.length) (n : Nat) : rzMid p cs a n 1 a n :=
  ⟨mulN_one hp hD (pwN_bd hp hD a n).1 (pwN_bd hp hD a n).2, by omega, by have := q_ge hp hD; omega, h0, h1⟩
theorem pwN_sq (hp : 2 ≤ p) (hD : 1 ≤ cs.length) {a : Int} (h0 : 0 ≤ a) (h1 : a < p ^ cs.length) (n : Nat) : pwN p cs (mulN p cs a a) n = pwN p cs a (2 * n) := by
  have : mulN p cs a a = pwN p cs a 2 := by rw [pwN, pwN_1 hp hD h0 h1]
  rw [this, pwN_mul hp hD]
theorem rzMid_odd (hp : 2 ≤ p) (hD : 1 ≤ cs.length) {a0 r a : Int} {n0 n : Nat} (h : rzMid p cs a0 n0 r a n) (hn : n % 2 = 1) : rzMid p cs a0 n0 (mulN p cs r a) (mulN p cs a a) (n / 2) := by
  obtain ⟨h1, h2, h3, h4, h5⟩ := h
  have b1 := mulN_bd (cs := cs) (show 0 < p by omega) r a
  have b2 := mulN_bd (cs := cs) (show 0 < p by omega) a a
  refine ⟨?_, b1.1, b1.2, b2.1, b2.2⟩
  rw [pwN_sq hp hD h4 h5, mulN_assoc (by omega) hD, mulN_comm (by omega) hD a, ← h1]
  have : n = 2 * (n / 2) + 1 := by omega
  conv => rhs; rw [this, pwN]
theorem rzMid_even (hp : 2 ≤ p) (hD : 1 ≤ cs.length) {a0 r a : Int} {n0 n : Nat} (h : rzMid p cs a0 n0 r a n) (hn : n % 2 = 0) : rzMid p cs a0 n0 r (mulN p cs a a) (n / 2) := by
  obtain ⟨h1, h2, h3, h4, h5⟩ := h
  have b2 := mulN_bd (cs := cs) (show 0 < p by omega) a a
  refine ⟨?_, h2, h3, b2.1, b2.2⟩
  rw [pwN_sq hp hD h4 h5, show 2 * (n / 2) = n from by omega, h1]
theorem rzMid_end (hp : 2 ≤ p) (hD : 1 ≤ cs.length) {a0 r a : Int} {n0 : Nat} (h : rzMid p cs a0 n0 r a 0) : r = pwN p cs a0 n0 := by
  obtain ⟨h1, h2, h3, h4, h5⟩ := h
  rw [← h1, pwN, mulN_one' hp hD h2 h3]

/-! a generator -/
def pws (p : Int) (cs : List Int) (g : Int) : Nat → Int → List Int
  | 0, _ => []
  | n + 1, x => x :: pws p cs g n (mulN p cs x g)
def genB (p : Int) (cs : List Int) (q : Nat) (g : Int) : Bool :=
  let l := pws p cs g q 1
  (l.getD (q - 1) 0 == 1) && ((l.take (q - 1)).drop 1).all (fun x => !(x == 1)) && (List.range (q - 1)).all fun a => l.any fun x => x == (a : Int) + 1
theorem pws_len (g : Int) : ∀ n x, (pws p cs g n x).length = n
  | 0, _ => rfl
  | n + 1, x => by rw [pws, List.length_cons, pws_len g n]
theorem pws_get (g : Int) : ∀ n k j, j < n → (pws p cs g n (pwN p cs g k)).getD j 0 = pwN p cs g (k + j)
  | 0, _, _, h => by omega
  | n + 1, k, 0, _ => by simp [pws]
  | n + 1, k, j + 1, h => by
    have := pws_get g n (k + 1) j (by omega)
    rw [pws, List.getD_cons_succ]
    rw [pwN] at this
    rw [this]
    congr 1; omega
/-- g generates. -/
def Gen (p : Int) (cs : List Int) (q : Nat) (g : Int) : Prop := pwN p cs g (q - 1) = 1 ∧ (∀ i, 1 ≤ i → i < q - 1 → pwN p cs g i ≠ 1) ∧ ∀ a : Int, 1 ≤ a → a < q → ∃ i, a = pwN p cs g i
theorem gen_of {q : Nat} {g : Int} (hq : 2 ≤ q) (h : genB p cs q g = true) : Gen p cs q g := by
  simp only [genB, Bool.and_eq_true] at h
  obtain ⟨⟨h1, h2⟩, h3⟩ := h
  have hget : ∀ j, j < q → (pws p cs g q 1).getD j 0 = pwN p cs g j := fun j hj => by
    have := pws_get (p := p) (cs := cs) g q 0 j hj
    rw [Nat.zero_add] at this
    exact this
  refine ⟨?_, fun i h4 h5 h6 => ?_, fun a h4 h5 => ?_⟩
  · rw [← hget _ (by omega)]; simpa using h1
  · have hl : i - 1 < ((List.take (q - 1) (pws p cs g q 1)).drop 1).length := by rw [List.length_drop, List.length_take, pws_len]; omega
    have h7 := List.all_eq_true.1 h2 _ (List.getElem_mem hl)
    have e : ((List.take (q - 1) (pws p cs g q 1)).drop 1)[i - 1] = 1 := by
      rw [List.getElem_drop, List.getElem_take]
      have h8 := hget i (by omega)
      rw [h6, getD_get _ _ (by rw [pws_len]; omega)] at h8
      have e9 : 1 + (i - 1) = i := by omega
      simp only [e9]; exact h8
    rw [e] at h7; simp at h7
  · have h7 := List.all_eq_true.1 h3 (a - 1).toNat (by rw [List.mem_range]; omega)
    obtain ⟨x, hx, h8⟩ := List.any_eq_true.1 h7
    obtain ⟨j, hj, e⟩ := List.mem_iff_getElem.1 hx
    rw [pws_len] at hj
    refine ⟨j, ?_⟩
    rw [← hget j hj, getD_get _ _ (by rw [pws_len]; exact hj), e]
    simp only [beq_iff_eq] at h8
    omega
/-- In a field of degree one the polynomial does not matter. -/
theorem mulL_one (hp : 0 < p) (c x y : Int) : mulL p [c] [x] [y] = [(x * y) % p] := by
  have h0 : (0 : Int) % p = 0 := Int.zero_emod p
  simp [mulL, premTo, redTo, convTo, convIn, List.replicate, List.getD]
theorem mulN_lin (hp : 0 < p) (c a b : Int) : mulN p [c] a b = mulN p [0] a b := by
  simp only [mulN, List.length_singleton, digL]
  rw [mulL_one hp, mulL_one hp]
theorem pwN_lin (hp : 0 < p) (c a : Int) (n : Nat) : pwN p [c] a n = pwN p [0] a n := by
  induction n with
  | zero => rfl
  | succ n ih => rw [pwN, pwN, ih, mulN_lin hp]
theorem gen_lin (hp : 0 < p) {c : Int} {q : Nat} {g : Int} (h : Gen p [0] q g) : Gen p [c] q g := by
  obtain ⟨h1, h2, h3⟩ := h
  refine ⟨by rw [pwN_lin hp]; exact h1, fun i a b => by rw [pwN_lin hp]; exact h2 i a b, fun a h4 h5 => ?_⟩
  obtain ⟨i, e⟩ := h3 a h4 h5
  exact ⟨i, by rw [pwN_lin hp]; exact e⟩
def hasGen (p : Int) (cs : List Int) (q : Nat) : Bool := (List.range q).any fun g => decide (1 ≤ g) && genB p cs q g
theorem hasGen_of {q : Nat} (hq : 2 ≤ q) (h : hasGen p cs q = true) : ∃ g : Int, 1 ≤ g ∧ g < q ∧ Gen p cs q g := by
  obtain ⟨g, h1, h2⟩ := List.any_eq_true.1 h
  rw [List.mem_range] at h1
  rw [Bool.and_eq_true, decide_eq_true_eq] at h2
  exact ⟨g, by omega, by omega, gen_of hq h2.2⟩
theorem gen_fermat (hp : 2 ≤ p) (hD : 1 ≤ cs.length) {g a : Int} (h : Gen p cs (p ^ cs.length).toNat g) (h1 : 1 ≤ a) (h2 : a < p ^ cs.length) : pwN p cs a ((p ^ cs.length).toNat - 1) = 1 := by
  obtain ⟨i, rfl⟩ := h.2.2 a h1 (by have := q_ge hp hD; omega)
  rw [pwN_mul hp hD, Nat.mul_comm, ← pwN_mul hp hD, h.1, pwN_one hp hD]
/-- The inverse, and no other. -/
theorem inv_is (hp : 2 ≤ p) (hD : 1 ≤ cs.length) {g a : Int} (h : Gen p cs (p ^ cs.length).toNat g) (h1 : 1 ≤ a) (h2 : a < p ^ cs.length) :
    mulN p cs a (pwN p cs a ((p ^ cs.length).toNat - 2)) = 1 ∧ 1 ≤ pwN p cs a ((p ^ cs.length).toNat - 2) ∧ ∀ b, 0 ≤ b → b < p ^ cs.length → mulN p cs a b = 1 → b = pwN p cs a ((p ^ cs.length).toNat - 2) := by
  have hq := q_ge hp hD
  have hf := gen_fermat hp hD h h1 h2
  have e : (p ^ cs.length).toNat - 1 = ((p ^ cs.length).toNat - 2) + 1 := by omega
  rw [e, pwN, mulN_comm (by omega) hD] at hf
  have hb := pwN_bd hp hD a ((p ^ cs.length).toNat - 2)
  generalize pwN p cs a ((p ^ cs.length).toNat - 2) = c at *
  refine ⟨hf, ?_, fun b b1 b2 hb' => ?_⟩
  · by_cases h0 : c = 0
    · subst h0; rw [mulN_zero (by omega) hD] at hf; omega
    · omega
  · have h3 : mulN p cs (mulN p cs b a) c = b := by rw [mulN_assoc (by omega) hD, hf, mulN_one' hp hD b1 b2]
    rw [mulN_comm (by omega) hD b, hb', mulN_one hp hD hb.1 hb.2] at h3
    exact h3.symm
end

end Go.Proofs.Ytafaecpmffmfgaa
