/- Ranks of subsets: rank, unrank and successor fit together. Plain Lean; no condition. -/
import Derived.Test.YtnibjljamogbeaaChoose
import Derived.Test.YtnibjljamogbeaaVSet
namespace Go.Proofs.Ytnibjljamogbeaa

/-- The sum of C(n-1-y, k) over y from lo, m of them. -/
def bsum (n k lo : Nat) : Nat → Nat
  | 0 => 0
  | m + 1 => bsum n k lo m + binom (n - 1 - (lo + m)) k
theorem bsum_tele (n k lo : Nat) : ∀ m, lo + m ≤ n → bsum n k lo m + binom (n - (lo + m)) (k + 1) = binom (n - lo) (k + 1)
  | 0, _ => by simp [bsum]
  | m + 1, h => by
    have ih := bsum_tele n k lo m (by omega)
    obtain ⟨j, hj⟩ : ∃ j, n - (lo + m) = j + 1 := ⟨n - (lo + m) - 1, by omega⟩
    rw [hj, binom_succ] at ih
    rw [bsum, show n - 1 - (lo + m) = j from by omega, show n - (lo + (m + 1)) = j from by omega]
    omega

/-- The rank of a rising list of numbers from lo to n-1. -/
def rk (n : Nat) : Nat → List Nat → Nat
  | _, [] => 0
  | lo, x :: xs => bsum n xs.length lo (x - lo) + rk n (x + 1) xs
/-- The list of length k from x on with a rank. -/
def ur (n : Nat) : Nat → Nat → Nat → Nat → List Nat
  | 0, _, _, _ => []
  | f + 1, x, k, r => if k = 0 then [] else if r < binom (n - 1 - x) (k - 1) then x :: ur n f (x + 1) (k - 1) r else ur n f (x + 1) k (r - binom (n - 1 - x) (k - 1))
/-- Rising numbers from lo to n-1. -/
def Up (n : Nat) : Nat → List Nat → Prop
  | _, [] => True
  | lo, x :: xs => lo ≤ x ∧ x < n ∧ Up n (x + 1) xs
theorem Up.len {n : Nat} : ∀ {lo : Nat} {xs : List Nat}, Up n lo xs → lo ≤ n → lo + xs.length ≤ n
  | _, [], _, h => by simpa using h
  | lo, x :: xs, h, _ => by
    have := Up.len h.2.2 (by have := h.2.1; omega)
    have := h.1
    rw [List.length_cons]; omega
theorem rk_cons {n lo x : Nat} {xs : List Nat} (h : Up n lo (x :: xs)) : rk n lo (x :: xs) + binom (n - x) (xs.length + 1) = binom (n - lo) (xs.length + 1) + rk n (x + 1) xs := by
  have := bsum_tele n xs.length lo (x - lo) (by have := h.1; have := h.2.1; omega)
  rw [show lo + (x - lo) = x from by have := h.1; omega] at this
  rw [rk]; omega
theorem rk_lt {n : Nat} : ∀ {lo : Nat} {xs : List Nat}, Up n lo xs → rk n lo xs < binom (n - lo) xs.length
  | lo, [], _ => by simp [rk, binom_zero]
  | lo, x :: xs, h => by
    have h1 := rk_cons h
    have h2 := rk_lt h.2.2
    obtain ⟨j, hj⟩ : ∃ j, n - x = j + 1 := ⟨n - x - 1, by have := h.2.1; omega⟩
    rw [hj, binom_succ] at h1
    rw [show n - (x + 1) = j from by omega] at h2
    rw [List.length_cons]; omega
theorem ur_skip {n : Nat} : ∀ (m f x k r : Nat), 0 < k → x + m ≤ n → ur n (f + m) x k (bsum n (k - 1) x m + r) = ur n f (x + m) k r
  | 0, f, x, k, r, _, _ => by simp [bsum]
  | m + 1, f, x, k, r, hk, h => by
    have e : ∀ m, bsum n (k - 1) x (m + 1) = binom (n - 1 - x) (k - 1) + bsum n (k - 1) (x + 1) m := by
      intro m
      induction m with
      | zero => simp [bsum]
      | succ m ih => rw [bsum, ih, bsum, show x + 1 + m = x + (m + 1) from by omega]; omega
    rw [e, ← Nat.add_assoc, ur, if_neg (by omega), if_neg (by omega)]
    rw [show binom (n - 1 - x) (k - 1) + bsum n (k - 1) (x + 1) m + r - binom (n - 1 - x) (k - 1) = bsum n (k - 1) (x + 1) m + r from by omega]
    rw [ur_skip m f (x + 1) k r hk (by omega)]
    congr 1; omega
theorem ur_rk {n : Nat} : ∀ {lo : Nat} {xs : List Nat} (f : Nat), Up n lo xs → n ≤ lo + f → ur n f lo xs.length (rk n lo xs) = xs
  | lo, [], f, _, _ => by cases f <;> simp [ur]
  | lo, x :: xs, f, h, hf => by
    have h1 := h.1
    have h2 := h.2.1
    obtain ⟨g, rfl⟩ : ∃ g, f = g + 1 + (x - lo) := ⟨f - 1 - (x - lo), by omega⟩
    rw [rk]
    have := ur_skip (n := n) (x - lo) (g + 1) lo (xs.length + 1) (rk n (x + 1) xs) (by omega) (by omega)
    simp only [Nat.add_sub_cancel] at this
    rw [List.length_cons, this, show lo + (x - lo) = x from by omega, ur, if_neg (by omega), if_pos (by
      have := rk_lt h.2.2
      rw [show n - (x + 1) = n - 1 - x from by omega] at this
      simpa using this)]
    simp only [Nat.add_sub_cancel]
    rw [ur_rk g h.2.2 (by omega)]

/-- a, a+1, .. : m of them. -/
def runUp (a : Nat) : Nat → List Nat
  | 0 => []
  | m + 1 => a :: runUp (a + 1) m
theorem runUp_len (a m : Nat) : (runUp a m).length = m := by
  induction m generalizing a with
  | zero => rfl
  | succ m ih => simp [runUp, ih]
theorem runUp_up {n : Nat} : ∀ (m a lo : Nat), lo ≤ a → a + m ≤ n → Up n lo (runUp a m)
  | 0, _, _, _, _ => trivial
  | m + 1, a, lo, h1, h2 => ⟨h1, by omega, runUp_up m (a + 1) (a + 1) (by omega) (by omega)⟩
theorem rk_runUp (n : Nat) : ∀ (m a : Nat), rk n a (runUp a m) = 0
  | 0, _ => rfl
  | m + 1, a => by rw [runUp, rk, Nat.sub_self, bsum, rk_runUp n m (a + 1)]
/-- The next list of the same length; none behind the last. -/
def nxt (n : Nat) : List Nat → Option (List Nat)
  | [] => none
  | x :: xs => match nxt n xs with
    | some ys => some (x :: ys)
    | none => if x + (xs.length + 1) = n then none else some (runUp (x + 1) (xs.length + 1))
theorem nxt_none {n : Nat} : ∀ {lo : Nat} {xs : List Nat}, Up n lo xs → lo ≤ n → nxt n xs = none → rk n lo xs + 1 = binom (n - lo) xs.length
  | lo, [], _, _, _ => by simp [rk, binom_zero]
  | lo, x :: xs, h, hlo, he => by
    rw [nxt] at he
    cases hx : nxt n xs with
    | some ys => rw [hx] at he; cases he
    | none =>
      rw [hx] at he
      by_cases hn : x + (xs.length + 1) = n
      · have h1 := rk_cons h
        have h2 := nxt_none h.2.2 (by have := h.2.1; omega) hx
        rw [show n - x = xs.length + 1 from by omega, binom_self] at h1
        rw [show n - (x + 1) = xs.length from by omega, binom_self] at h2
        rw [List.length_cons]; omega
      · simp [hn] at he
theorem nxt_some {n : Nat} : ∀ {lo : Nat} {xs ys : List Nat}, Up n lo xs → lo ≤ n → nxt n xs = some ys → Up n lo ys ∧ ys.length = xs.length ∧ rk n lo ys = rk n lo xs + 1
  | lo, x :: xs, ys, h, hlo, he => by
    rw [nxt] at he
    cases hx : nxt n xs with
    | some zs =>
      rw [hx] at he
      cases he
      obtain ⟨h1, h2, h3⟩ := nxt_some h.2.2 (by have := h.2.1; omega) hx
      refine ⟨⟨h.1, h.2.1, h1⟩, by simp [h2], ?_⟩
      rw [rk, rk, h2, h3]; omega
    | none =>
      rw [hx] at he
      by_cases hn : x + (xs.length + 1) = n
      · simp [hn] at he
      · simp only [hn, if_false, Option.some.injEq] at he
        subst he
        have hl := Up.len h.2.2 (by have := h.2.1; omega)
        have h2 := nxt_none h.2.2 (by have := h.2.1; omega) hx
        refine ⟨runUp_up _ _ _ (by have := h.1; omega) (by omega), by simp [runUp_len], ?_⟩
        rw [runUp, rk, rk, rk_runUp, runUp_len, show x + 1 - lo = (x - lo) + 1 from by have := h.1; omega, bsum, show lo + (x - lo) = x from by have := h.1; omega]
        rw [show n - (x + 1) = n - 1 - x from by omega] at h2
        omega

theorem bsum_mono (n k lo : Nat) {i j : Nat} (h : i ≤ j) : bsum n k lo i ≤ bsum n k lo j := by
  induction j with
  | zero => obtain rfl : i = 0 := by omega
            exact Nat.le_refl _
  | succ j ih =>
    by_cases e : i = j + 1
    · subst e; exact Nat.le_refl _
    · rw [bsum]; have := ih (by omega); omega
theorem up_nat {n : Int} : ∀ (xs : List Int) (last : Int), -1 ≤ last → upB last n xs = true → ∃ ns : List Nat, xs = ns.map (fun x : Nat => (x : Int)) ∧ Up n.toNat (last + 1).toNat ns
  | [], _, _, _ => ⟨[], rfl, trivial⟩
  | x :: r, last, hl, h => by
    simp only [upB, Bool.and_eq_true, decide_eq_true_eq] at h
    obtain ⟨ns, h1, h2⟩ := up_nat r x (by omega) h.2
    refine ⟨x.toNat :: ns, ?_, by omega, by omega, ?_⟩
    · rw [List.map_cons, h1, Int.toNat_of_nonneg (by omega)]
    · rw [show x.toNat + 1 = (x + 1).toNat from by omega]; exact h2
theorem valid_nat {xs : List Int} {n : Int} (h : validB xs n = true) : 0 ≤ n ∧ n ≤ 32 ∧ ∃ ns : List Nat, xs = ns.map (fun x : Nat => (x : Int)) ∧ Up n.toNat 0 ns := by
  simp only [validB, Bool.and_eq_true, inB_iff] at h
  obtain ⟨ns, h1, h2⟩ := up_nat xs (-1) (by omega) h.2
  exact ⟨h.1.1, h.1.2, ns, h1, h2⟩
theorem up_nat_back {n : Int} (hn : 0 ≤ n) : ∀ (ns : List Nat) (lo : Nat), Up n.toNat lo ns → upB ((lo : Int) - 1) n (ns.map (fun x : Nat => (x : Int))) = true
  | [], _, _ => rfl
  | x :: r, lo, h => by
    obtain ⟨h1, h2, h3⟩ := h
    have := up_nat_back hn r (x + 1) h3
    rw [List.map_cons, upB]
    simp only [Bool.and_eq_true, decide_eq_true_eq]
    refine ⟨⟨by omega, by omega⟩, ?_⟩
    rw [← this]; congr 1; omega
theorem choose_nat {a b : Int} (A B : Nat) (ha : a = A) (hb : b = B) (h : A ≤ 32) : choose a b = (binom A B : Int) := by
  subst ha hb
  unfold choose
  by_cases hab : B ≤ A
  · rw [if_pos (by simp only [Bool.and_eq_true, inB_iff]; omega)]; simp
  · rw [if_neg (by simp only [Bool.and_eq_true, inB_iff]; omega), binom_lt A B (by omega)]; rfl
/-- The rank of what reads as a set. -/
def rankOf (n : Int) (xs : List Int) : Int := (rk n.toNat 0 (xs.map Int.toNat) : Nat)
def rankOut (n : Int) (xs : List Int) : Int := if validB xs n then rankOf n xs else 0
def rankCode (n : Int) (xs : List Int) : Int := if validB xs n then 0 else 1
theorem map_toNat (ns : List Nat) : (ns.map (fun x : Nat => (x : Int))).map Int.toNat = ns := by
  induction ns with
  | nil => rfl
  | cons x r ih => simp only [List.map_cons, ih, Int.toNat_natCast]
/-- Half way: R has been counted, the numbers from L on are left. -/
def rkMid (n : Nat) (ns : List Nat) (i L : Nat) (R : Int) : Prop := ∃ r : Nat, R = (r : Int) ∧ rk n 0 ns = r + rk n L (ns.drop i) ∧ Up n L (ns.drop i)
theorem rkMid_start {n : Nat} {ns : List Nat} (h : Up n 0 ns) : rkMid n ns 0 0 0 := ⟨0, rfl, by simp, by simpa using h⟩
theorem rkMid_end {n : Nat} {ns : List Nat} {L : Nat} {R : Int} (h : rkMid n ns ns.length L R) : R = (rk n 0 ns : Nat) := by
  obtain ⟨r, h1, h2, h3⟩ := h
  rw [List.drop_length, rk] at h2
  rw [h1, h2]; rfl
theorem rk_bd {n : Nat} {ns : List Nat} (h : Up n 0 ns) (hn : n ≤ 32) : rk n 0 ns < 4294967297 := by
  have h1 := rk_lt h
  have h2 := Nat.le_trans (binom_le (n - 0) ns.length) (Nat.pow_le_pow_right (by omega) (show n - 0 ≤ 32 by omega))
  omega
/-- In the midst of one number's sum. -/
def rkIn (n : Nat) (ns : List Nat) (i L : Nat) (R : Int) (j : Nat) (R' : Int) : Prop := R' = R + (bsum n (ns.length - 1 - i) L j : Nat)
theorem rkIn_bd {n : Nat} {ns : List Nat} {i L : Nat} {R : Int} {j : Nat} {R' : Int} (h : rkIn n ns i L R j R') (hm : rkMid n ns i L R) (hu : Up n 0 ns) (hn : n ≤ 32) (hi : i < ns.length) (hj : L + j ≤ ns[i]) : 0 ≤ R' ∧ R' ≤ 4294967297 := by
  obtain ⟨r, h1, h2, h3⟩ := hm
  have hd : ns.drop i = ns[i] :: ns.drop (i + 1) := List.drop_eq_getElem_cons hi
  rw [hd, rk, List.length_drop] at h2
  have hb := rk_bd hu hn
  have h4 := bsum_mono n (ns.length - 1 - i) L (show j ≤ ns[i] - L by omega)
  rw [show ns.length - (i + 1) = ns.length - 1 - i from by omega] at h2
  unfold rkIn at h
  omega
theorem rkIn_next {n : Nat} {ns : List Nat} {i L : Nat} {R : Int} {j : Nat} {R' : Int} (h : rkIn n ns i L R j R') : rkIn n ns i L R (j + 1) (R' + (binom (n - 1 - (L + j)) (ns.length - 1 - i) : Nat)) := by
  unfold rkIn at *
  rw [bsum, h]; omega
theorem rkMid_next {n : Nat} {ns : List Nat} {i L : Nat} {R : Int} {R' : Int} (hm : rkMid n ns i L R) (hi : i < ns.length) {j : Nat} (hj : L + j = ns[i]) (h : rkIn n ns i L R j R') : rkMid n ns (i + 1) (ns[i] + 1) R' := by
  obtain ⟨r, h1, h2, h3⟩ := hm
  have hd : ns.drop i = ns[i] :: ns.drop (i + 1) := List.drop_eq_getElem_cons hi
  rw [hd] at h2 h3
  rw [rk, List.length_drop] at h2
  refine ⟨r + bsum n (ns.length - 1 - i) L j, ?_, ?_, h3.2.2⟩
  · unfold rkIn at h; rw [h, h1]; omega
  · rw [h2, show ns.length - (i + 1) = ns.length - 1 - i from by omega, show ns[i] - L = j from by omega]; omega
theorem rkMid_le {n : Nat} {ns : List Nat} {i L : Nat} {R : Int} (hm : rkMid n ns i L R) (hi : i < ns.length) : L ≤ ns[i] ∧ ns[i] < n := by
  obtain ⟨r, h1, h2, h3⟩ := hm
  rw [List.drop_eq_getElem_cons hi] at h3
  exact ⟨h3.1, h3.2.1⟩
end Go.Proofs.Ytnibjljamogbeaa
