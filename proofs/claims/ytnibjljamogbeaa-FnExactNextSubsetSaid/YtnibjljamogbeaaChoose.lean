/- Choose: binomial numbers; the walks of the program and of the reference, and the law. No condition. -/
import Derived.Test.YtnibjljamogbeaaInts
import Derived.Test.YtnibjljamogbeaaMem
namespace Go.Proofs.Ytnibjljamogbeaa
open Go.RowKit

def binom : Nat → Nat → Nat
  | _, 0 => 1
  | 0, _ + 1 => 0
  | n + 1, k + 1 => binom n k + binom n (k + 1)
theorem binom_zero (n : Nat) : binom n 0 = 1 := by cases n <;> rfl
theorem binom_succ (n k : Nat) : binom (n + 1) (k + 1) = binom n k + binom n (k + 1) := rfl
theorem binom_lt : ∀ (n k : Nat), n < k → binom n k = 0
  | 0, k + 1, _ => rfl
  | n + 1, k + 1, h => by rw [binom_succ, binom_lt n k (by omega), binom_lt n (k + 1) (by omega)]
theorem binom_self : ∀ n : Nat, binom n n = 1
  | 0 => rfl
  | n + 1 => by rw [binom_succ, binom_self n, binom_lt n (n + 1) (by omega)]
theorem binom_le (n : Nat) : ∀ k, binom n k ≤ 2 ^ n := by
  induction n with
  | zero => intro k; cases k <;> simp [binom]
  | succ n ih =>
    intro k
    cases k with
    | zero => rw [binom_zero]; exact Nat.one_le_two_pow
    | succ k => rw [binom_succ, Nat.pow_succ]; have := ih k; have := ih (k + 1); omega
theorem binom_mul (n : Nat) : ∀ k, (n + 1) * binom n k = binom (n + 1) (k + 1) * (k + 1) := by
  induction n with
  | zero =>
    intro k
    cases k with
    | zero => rfl
    | succ k => simp [binom]
  | succ n ih =>
    intro k
    cases k with
    | zero =>
      have h1 := ih 0
      have e : binom (n + 1 + 1) (0 + 1) = binom (n + 1) 0 + binom (n + 1) (0 + 1) := rfl
      rw [binom_zero] at *
      omega
    | succ k =>
      have h1 := ih k
      have h2 := ih (k + 1)
      have e1 : binom (n + 1) (k + 1) = binom n k + binom n (k + 1) := rfl
      have e2 : binom (n + 1 + 1) (k + 1 + 1) = binom (n + 1) (k + 1) + binom (n + 1) (k + 1 + 1) := rfl
      rw [e2]
      generalize binom (n + 1) (k + 1 + 1) = W at *
      generalize binom (n + 1) (k + 1) = Z at *
      subst e1
      generalize binom n k = X at *
      generalize binom n (k + 1) = Y at *
      simp only [Nat.add_mul, Nat.mul_add, Nat.one_mul, Nat.mul_one] at *
      omega
theorem binom_pos : ∀ (n k : Nat), k ≤ n → 0 < binom n k
  | n, 0, _ => by rw [binom_zero]; omega
  | 0, k + 1, h => by omega
  | n + 1, k + 1, h => by rw [binom_succ]; have := binom_pos n k (by omega); omega
theorem binom_step (n i : Nat) : binom n i * (n + 1) / (i + 1) = binom (n + 1) (i + 1) := by
  have h := binom_mul n i
  rw [Nat.mul_comm] at h
  rw [h, Nat.mul_div_cancel _ (by omega)]

def choose (n k : Int) : Int := if inB n 0 32 && inB k 0 n then (binom n.toNat k.toNat : Int) else 0
theorem chooseMid_next {m i : Nat} : ((binom (m + i) i : Nat) : Int) * ((m : Int) + ((i : Int) + 1)) / ((i : Int) + 1) = ((binom (m + (i + 1)) (i + 1) : Nat) : Int) := by
  have h := binom_step (m + i) i
  rw [show m + (i + 1) = m + i + 1 from rfl, ← h]
  simp only [Int.natCast_ediv, Int.natCast_mul, Int.natCast_add, Int.natCast_one]
  rw [Int.add_assoc]
theorem binom_small {n k : Nat} (h : n ≤ 33) : binom n k ≤ 8589934592 :=
  Nat.le_trans (binom_le n k) (Nat.le_trans (Nat.pow_le_pow_right (by omega) h) (by decide))

theorem s_Choose (n k : Int) (w : World) :
    Calls Try.prog 61 #[.int .i64 n, .int .i64 k] w fun e w' => e = .returned (.int .i64 (choose n k)) ∧ w = w' := by
  cases h1 : inB n 0 32
  · have G : Hid (choose n k = 0) := Lib.hid (by simp [choose, h1])
    go_enter Try.func61, Try.ntmps61
    go_wp2_with (go_at_call 50; refine (s_in _ _ _ _).mono ?_; rintro e w' ⟨rfl, rfl⟩)
    go_ret
    exact ⟨ret_i64 G.out.symm, rfl⟩
  · cases h2 : inB k 0 n
    · have G : Hid (choose n k = 0) := Lib.hid (by simp [choose, h2])
      go_enter Try.func61, Try.ntmps61
      go_wp2_with (go_at_call 50; refine (s_in _ _ _ _).mono ?_; rintro e w' ⟨rfl, rfl⟩)
      go_ret
      exact ⟨ret_i64 G.out.symm, rfl⟩
    · have G : Hid (choose n k = (binom n.toNat k.toNat : Int)) := Lib.hid (by simp [choose, h1, h2])
      obtain ⟨a1, a2⟩ := inB_iff.1 h1
      obtain ⟨a3, a4⟩ := inB_iff.1 h2
      go_enter Try.func61, Try.ntmps61
      go_wp2_with (go_at_call 50; refine (s_in _ _ _ _).mono ?_; rintro e w' ⟨rfl, rfl⟩)
      clear h1 h2
      obtain ⟨m, hm⟩ : ∃ m : Nat, n - k = (m : Int) := ⟨(n - k).toNat, by omega⟩
      have HM := Lib.hid hm
      clear hm
      go_loop [5, 6] (fun c i => ∃ j : Nat, (j : Int) ≤ k ∧ i = .int .i64 ((j : Int) + 1) ∧ c = .int .i64 (binom (m + j) j : Nat)) (fun _ i => (k + 1 - intOf i).toNat)
      case atStart => exact ⟨0, by omega, rfl, by rw [binom_zero]; rfl⟩
      case round =>
        obtain ⟨j, hj, rfl, rfl⟩ := hrel
        by_cases hlt : (j : Int) + 1 ≤ k
        · have hb := binom_small (n := m + j) (k := j) (by have := HM.out; omega)
          have hn := Lib.hid (chooseMid_next (m := m) (i := j))
          have hm2 : 0 ≤ ((binom (m + j) j : Nat) : Int) * (n - k + ((j : Int) + 1)) ∧ ((binom (m + j) j : Nat) : Int) * (n - k + ((j : Int) + 1)) ≤ 8589934592 * 64 :=
            ⟨Int.mul_nonneg (by omega) (by omega), Int.mul_le_mul (by omega) (by omega) (by omega) (by omega)⟩
          obtain ⟨hm3, hm4⟩ := hm2
          generalize hc : binom (m + j) j = c at *
          have HC := Lib.hid hc
          clear hc
          go_wp2
          exact ⟨⟨j + 1, by omega, by go_num, vint (by rw [HM.out]; exact hn.out)⟩, by simp [intOf]; omega⟩
        · have G2 : Hid ((binom (m + j) j : Nat) = (binom n.toNat k.toNat : Nat)) := Lib.hid (by have := HM.out; rw [show k.toNat = j from by omega, show n.toNat = m + j from by omega])
          go_wp2
          go_ret
          exact ⟨ret_i64 (by rw [G.out, G2.out]), rfl⟩
theorem i_Choose (n k : Int) (w : World) :
    Calls Try.prog 63 #[.int .i64 n, .int .i64 k] w fun e w' => e = .returned (.int .i64 (choose n k)) ∧ w = w' := by
  cases h1 : inB n 0 32
  · have G : Hid (choose n k = 0) := Lib.hid (by simp [choose, h1])
    go_enter Try.func63, Try.ntmps63
    go_wp2_with (go_at_call 52; refine (i_in _ _ _ _).mono ?_; rintro e w' ⟨rfl, rfl⟩)
    go_ret
    exact ⟨ret_i64 G.out.symm, rfl⟩
  · cases h2 : inB k 0 n
    · have G : Hid (choose n k = 0) := Lib.hid (by simp [choose, h2])
      go_enter Try.func63, Try.ntmps63
      go_wp2_with (go_at_call 52; refine (i_in _ _ _ _).mono ?_; rintro e w' ⟨rfl, rfl⟩)
      go_ret
      exact ⟨ret_i64 G.out.symm, rfl⟩
    · have G : Hid (choose n k = (binom n.toNat k.toNat : Int)) := Lib.hid (by simp [choose, h1, h2])
      obtain ⟨a1, a2⟩ := inB_iff.1 h1
      obtain ⟨a3, a4⟩ := inB_iff.1 h2
      go_enter Try.func63, Try.ntmps63
      go_wp2_with (go_at_call 52; refine (i_in _ _ _ _).mono ?_; rintro e w' ⟨rfl, rfl⟩)
      clear h1 h2
      obtain ⟨m, hm⟩ : ∃ m : Nat, n - k = (m : Int) := ⟨(n - k).toNat, by omega⟩
      have HM := Lib.hid hm
      clear hm
      go_loop [5, 6] (fun c i => ∃ j : Nat, (j : Int) ≤ k ∧ i = .int .i64 ((j : Int) + 1) ∧ c = .int .i64 (binom (m + j) j : Nat)) (fun _ i => (k + 1 - intOf i).toNat)
      case atStart => exact ⟨0, by omega, rfl, by rw [binom_zero]; rfl⟩
      case round =>
        obtain ⟨j, hj, rfl, rfl⟩ := hrel
        by_cases hlt : (j : Int) + 1 ≤ k
        · have hb := binom_small (n := m + j) (k := j) (by have := HM.out; omega)
          have hn := Lib.hid (chooseMid_next (m := m) (i := j))
          have hm2 : 0 ≤ ((binom (m + j) j : Nat) : Int) * (n - k + ((j : Int) + 1)) ∧ ((binom (m + j) j : Nat) : Int) * (n - k + ((j : Int) + 1)) ≤ 8589934592 * 64 :=
            ⟨Int.mul_nonneg (by omega) (by omega), Int.mul_le_mul (by omega) (by omega) (by omega) (by omega)⟩
          obtain ⟨hm3, hm4⟩ := hm2
          generalize hc : binom (m + j) j = c at *
          have HC := Lib.hid hc
          clear hc
          go_wp2
          exact ⟨⟨j + 1, by omega, by go_num, vint (by rw [HM.out]; exact hn.out)⟩, by simp [intOf]; omega⟩
        · have G2 : Hid ((binom (m + j) j : Nat) = (binom n.toNat k.toNat : Nat)) := Lib.hid (by have := HM.out; rw [show k.toNat = j from by omega, show n.toNat = m + j from by omega])
          go_wp2
          go_ret
          exact ⟨ret_i64 (by rw [G.out, G2.out]), rfl⟩

end Go.Proofs.Ytnibjljamogbeaa
