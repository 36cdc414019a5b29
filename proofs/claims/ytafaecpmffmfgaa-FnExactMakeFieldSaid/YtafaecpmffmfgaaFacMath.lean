/- Prime factors by trial division, as the program and the reference find them: they rise; one alone just of a prime number. Plain Lean; no condition. -/
import Derived.Test.YtafaecpmffmfgaaBase
namespace Go.Proofs.Ytafaecpmffmfgaa

/-- The prime factors: one step a round. inner: we are in the loop that divides. -/
def fac : Nat → Bool → Int → Int → List Int
  | 0, _, _, _ => []
  | f + 1, true, p, n => if n % p = 0 then p :: fac f true p (n / p) else fac f false (p + 1) n
  | f + 1, false, p, n => if p * p ≤ n then fac f true p n else if 1 < n then [n] else []
/-- Enough rounds are left. -/
def facFit (f : Nat) (inner : Bool) (p n : Int) : Prop := 2 * (2000 + n - p) + (if inner then 0 else 1) < (f : Int) ∧ 2 ≤ p ∧ p ≤ 1001 ∧ 1 ≤ n ∧ n ≤ 1000000 ∧ (inner = true → p ≤ 1000)
theorem sq_le {p n : Int} (h0 : 2 ≤ p) (h : p * p ≤ n) (hn : n ≤ 1000000) : p ≤ 1000 ∧ p ≤ n := by
  constructor
  · rcases Int.lt_or_le 1000 p with h1 | h1
    · have : 1001 * 1001 ≤ p * p := Int.mul_le_mul (by omega) (by omega) (by omega) (by omega)
      omega
    · exact h1
  · have : 1 * p ≤ p * p := Int.mul_le_mul (by omega) (by omega) (by omega) (by omega)
    omega
theorem facFit_go {f : Nat} {p n : Int} (h : facFit (f + 1) false p n) (hp : p * p ≤ n) : facFit f true p n := by
  obtain ⟨h1, h2, h3, h4, h5, _⟩ := h
  have := sq_le h2 hp h5
  exact ⟨by simp at *; omega, h2, h3, h4, h5, fun _ => this.1⟩
theorem div_facts {p n : Int} (h2 : 2 ≤ p) (h4 : 1 ≤ n) (hd : n % p = 0) : 1 ≤ n / p ∧ n / p < n ∧ n = p * (n / p) := by
  have h := Int.mul_ediv_add_emod n p
  rw [hd, Int.add_zero] at h
  have h1 : 1 ≤ n / p := by
    rcases Int.lt_or_le 0 (n / p) with h0 | h0
    · omega
    · have : p * (n / p) ≤ p * 0 := Int.mul_le_mul_of_nonneg_left h0 (by omega)
      omega
  refine ⟨h1, ?_, h.symm⟩
  have : 2 * (n / p) ≤ p * (n / p) := Int.mul_le_mul_of_nonneg_right h2 (by omega)
  omega
theorem facFit_hit {f : Nat} {p n : Int} (h : facFit (f + 1) true p n) (hd : n % p = 0) : facFit f true p (n / p) := by
  obtain ⟨h1, h2, h3, h4, h5, h6⟩ := h
  have := div_facts h2 h4 hd
  exact ⟨by simp at *; omega, h2, h3, by omega, by omega, fun _ => h6 rfl⟩
theorem facFit_miss {f : Nat} {p n : Int} (h : facFit (f + 1) true p n) : facFit f false (p + 1) n := by
  obtain ⟨h1, h2, h3, h4, h5, h6⟩ := h
  have := h6 rfl
  exact ⟨by simp at *; omega, by omega, by omega, by omega, by omega, by simp⟩
theorem facFit_pos {f : Nat} {b : Bool} {p n : Int} (h : facFit f b p n) : ∃ k, f = k + 1 := by
  obtain ⟨h1, h2, h3, h4, h5, h6⟩ := h
  exact ⟨f - 1, by cases b <;> simp at h1 <;> omega⟩

/-- No divisor of n from 2 on lies below p. -/
def clean (p n : Int) : Prop := ∀ d, 2 ≤ d → d < p → n % d ≠ 0
theorem clean_start (n : Int) : clean 2 n := fun d h1 h2 => by omega
theorem clean_div {p n : Int} (h : clean p n) (h2 : 2 ≤ p) (h4 : 1 ≤ n) (hd : n % p = 0) : clean p (n / p) := by
  intro d h1 hlt hz
  have hn := (div_facts h2 h4 hd).2.2
  apply h d h1 hlt
  have e : n / p = d * (n / p / d) := by have := Int.mul_ediv_add_emod (n / p) d; omega
  have e2 : n = d * (p * (n / p / d)) := by
    calc n = p * (n / p) := hn
      _ = p * (d * (n / p / d)) := by rw [← e]
      _ = d * (p * (n / p / d)) := by rw [← Int.mul_assoc, Int.mul_comm p d, Int.mul_assoc]
  rw [e2]; exact Int.mul_emod_right d _
theorem clean_next {p n : Int} (h : clean p n) (hd : ¬ n % p = 0) : clean (p + 1) n := by
  intro d h1 hlt
  by_cases e : d = p
  · subst e; exact hd
  · exact h d h1 (by omega)
theorem clean_ge {p n : Int} (h : clean p n) (hn : 1 < n) : p ≤ n := by
  rcases Int.lt_or_le n p with h1 | h1
  · exact absurd Int.emod_self (h n (by omega) h1)
  · exact h1

/-- The factors are at least p, and rise (weakly). -/
theorem fac_ge : ∀ (f : Nat) (b : Bool) (p n : Int), facFit f b p n → clean p n → (∀ x ∈ fac f b p n, p ≤ x) ∧ (fac f b p n).Pairwise (· ≤ ·) := by
  intro f
  induction f with
  | zero => intro b p n h; obtain ⟨k, hk⟩ := facFit_pos h; omega
  | succ f ih =>
    intro b p n h hc
    cases b with
    | true =>
      by_cases hd : n % p = 0
      · rw [fac, if_pos hd]
        have := ih true p (n / p) (facFit_hit h hd) (clean_div hc h.2.1 h.2.2.2.1 hd)
        refine ⟨fun x hx => ?_, ?_⟩
        · rcases List.mem_cons.1 hx with rfl | hx
          · omega
          · exact this.1 x hx
        · exact List.pairwise_cons.2 ⟨this.1, this.2⟩
      · rw [fac, if_neg hd]
        have := ih false (p + 1) n (facFit_miss h) (clean_next hc hd)
        exact ⟨fun x hx => by have := this.1 x hx; omega, this.2⟩
    | false =>
      by_cases hp : p * p ≤ n
      · rw [fac, if_pos hp]
        exact ih true p n (facFit_go h hp) hc
      · rw [fac, if_neg hp]
        by_cases h1 : 1 < n
        · rw [if_pos h1]
          exact ⟨fun x hx => by rw [List.mem_singleton.1 hx]; exact clean_ge hc h1, List.pairwise_singleton _ _⟩
        · rw [if_neg h1]; simp
theorem fac_ne : ∀ (f : Nat) (b : Bool) (p n : Int), facFit f b p n → 1 < n → fac f b p n ≠ [] := by
  intro f
  induction f with
  | zero => intro b p n h; obtain ⟨k, hk⟩ := facFit_pos h; omega
  | succ f ih =>
    intro b p n h hn
    cases b with
    | true =>
      by_cases hd : n % p = 0
      · rw [fac, if_pos hd]; simp
      · rw [fac, if_neg hd]; exact ih _ _ _ (facFit_miss h) hn
    | false =>
      by_cases hp : p * p ≤ n
      · rw [fac, if_pos hp]; exact ih _ _ _ (facFit_go h hp) hn
      · rw [fac, if_neg hp, if_pos hn]; simp

def facs (n : Int) : List Int := if 1 ≤ n ∧ n ≤ 1000000 then fac 2004001 false 2 n else []
theorem facs_fit {n : Int} (h : 1 ≤ n ∧ n ≤ 1000000) : facFit 2004001 false 2 n := ⟨by simp; omega, by omega, by omega, by omega, by omega, by simp⟩

/-- Trial division: no d from 2 on with d * d ≤ n divides n. -/
def noDiv : Nat → Int → Int → Bool
  | 0, _, _ => true
  | f + 1, d, n => if d * d ≤ n then (if n % d = 0 then false else noDiv f (d + 1) n) else true
def isPr (n : Int) : Bool := decide (2 ≤ n) && decide (n ≤ 1000000) && noDiv 1000 2 n
theorem fac_len : ∀ (k : Nat) (f : Nat) (p n : Int), facFit f false p n → 1 < n → 1001 < p + k → ((fac f false p n).length = 1 ↔ noDiv k p n = true) := by
  intro k
  induction k with
  | zero => intro f p n h hn hk; obtain ⟨h1, h2, h3, _⟩ := h; omega
  | succ k ih =>
    intro f p n h hn hk
    obtain ⟨f, rfl⟩ := facFit_pos h
    by_cases hp : p * p ≤ n
    · rw [fac, if_pos hp, noDiv, if_pos hp]
      have hg := facFit_go h hp
      obtain ⟨f, rfl⟩ := facFit_pos hg
      by_cases hd : n % p = 0
      · rw [fac, if_pos hd, if_pos hd]
        have hq : 1 < n / p := by
          have hf := div_facts h.2.1 h.2.2.2.1 hd
          have : p ≤ n / p := by
            rcases Int.lt_or_le (n / p) p with h9 | h9
            · have : p * (n / p) < p * p := Int.mul_lt_mul_of_pos_left h9 (by have := h.2.1; omega)
              omega
            · exact h9
          have := h.2.1; omega
        have := fac_ne f true p (n / p) (facFit_hit hg hd) hq
        have : (fac f true p (n / p)).length ≠ 0 := by simpa using this
        simp only [List.length_cons, Bool.false_eq_true, iff_false]
        omega
      · rw [fac, if_neg hd, if_neg hd]
        exact ih f (p + 1) n (facFit_miss hg) hn (by omega)
    · rw [fac, if_neg hp, noDiv, if_neg hp, if_pos hn]; simp
theorem facs_len (n : Int) : decide ((facs n).length = 1) = isPr n := by
  unfold facs isPr
  by_cases h : 1 ≤ n ∧ n ≤ 1000000
  · rw [if_pos h]
    by_cases h1 : 1 < n
    · have := fac_len 1000 2004001 2 n (facs_fit h) h1 (by omega)
      rw [show (decide (2 ≤ n) : Bool) = true from by simp; omega, show (decide (n ≤ 1000000) : Bool) = true from by simp; omega]
      simp only [Bool.true_and]
      rw [Bool.eq_iff_iff, decide_eq_true_iff]; exact this
    · obtain rfl : n = 1 := by omega
      rfl
  · rw [if_neg h]
    by_cases h2 : 2 ≤ n
    · have : ¬ n ≤ 1000000 := by omega
      simp [this]
    · simp [h2]

theorem fac_len_le : ∀ (f : Nat) (b : Bool) (p n : Int), (fac f b p n).length ≤ f
  | 0, _, _, _ => by simp [fac]
  | f + 1, true, p, n => by
    rw [fac]; split
    · have := fac_len_le f true p (n / p); simp; omega
    · have := fac_len_le f false (p + 1) n; omega
  | f + 1, false, p, n => by
    rw [fac]; split
    · have := fac_len_le f true p n; omega
    · split <;> simp
theorem facs_len_le (n : Int) : (facs n).length ≤ 2004001 := by
  unfold facs; split
  · exact fac_len_le _ _ _ _
  · simp
/-- After some rounds: pre has been found. -/
def facMid (b : Bool) (n0 p n : Int) (pre : List Int) : Prop := ∃ f, facs n0 = pre ++ fac f b p n ∧ facFit f b p n
theorem facMid_start {n : Int} (h : 1 ≤ n ∧ n ≤ 1000000) : facMid false n 2 n [] := ⟨2004001, by rw [facs, if_pos h]; rfl, facs_fit h⟩
theorem facMid_bd {b : Bool} {n0 p n : Int} {pre : List Int} (h : facMid b n0 p n pre) : 2 ≤ p ∧ p ≤ 1001 ∧ 1 ≤ n ∧ n ≤ 1000000 ∧ pre.length ≤ 2004001 ∧ (b = true → p ≤ 1000) := by
  obtain ⟨f, h1, h2, h3, h4, h5, h6, h7⟩ := h
  have := facs_len_le n0
  rw [h1, List.length_append] at this
  exact ⟨h3, h4, h5, h6, by omega, h7⟩
theorem facMid_go {n0 p n : Int} {pre : List Int} (h : facMid false n0 p n pre) (hp : p * p ≤ n) : facMid true n0 p n pre := by
  obtain ⟨f, h1, h2⟩ := h
  obtain ⟨f, rfl⟩ := facFit_pos h2
  exact ⟨f, by rw [h1, fac, if_pos hp], facFit_go h2 hp⟩
theorem facMid_hit {n0 p n : Int} {pre : List Int} (h : facMid true n0 p n pre) (hd : n % p = 0) : facMid true n0 p (n / p) (pre ++ [p]) := by
  obtain ⟨f, h1, h2⟩ := h
  obtain ⟨f, rfl⟩ := facFit_pos h2
  exact ⟨f, by rw [h1, fac, if_pos hd]; simp, facFit_hit h2 hd⟩
theorem facMid_miss {n0 p n : Int} {pre : List Int} (h : facMid true n0 p n pre) (hd : ¬ n % p = 0) : facMid false n0 (p + 1) n pre := by
  obtain ⟨f, h1, h2⟩ := h
  obtain ⟨f, rfl⟩ := facFit_pos h2
  exact ⟨f, by rw [h1, fac, if_neg hd], facFit_miss h2⟩
theorem facMid_end {n0 p n : Int} {pre : List Int} (h : facMid false n0 p n pre) (hp : ¬ p * p ≤ n) : facs n0 = pre ++ if 1 < n then [n] else [] := by
  obtain ⟨f, h1, h2⟩ := h
  obtain ⟨f, rfl⟩ := facFit_pos h2
  rw [h1, fac, if_neg hp]
end Go.Proofs.Ytafaecpmffmfgaa
