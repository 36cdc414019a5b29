/- OrderMod: powers modulo m, their first return to 1; the walks of the program and of the reference, and the law. No condition. -/
import Derived.Test.YtnibjljamogbeaaGcd
namespace Go.Proofs.Ytnibjljamogbeaa
open Go.RowKit

theorem php : ∀ (m : Nat) (f : Nat → Nat), (∀ i, i ≤ m → f i < m) → ∃ i j, i < j ∧ j ≤ m ∧ f i = f j := by
  intro m
  induction m with
  | zero => intro f h; have := h 0 (by omega); omega
  | succ m ih =>
    intro f h
    by_cases hv : ∃ i, i ≤ m ∧ f i = f (m + 1)
    · obtain ⟨i, hi, he⟩ := hv
      exact ⟨i, m + 1, by omega, by omega, he⟩
    · have hne : ∀ i, i ≤ m → f i ≠ f (m + 1) := fun i hi he => hv ⟨i, hi, he⟩
      obtain ⟨i, j, h1, h2, h3⟩ := ih (fun i => if f (m + 1) < f i then f i - 1 else f i) (fun i hi => by
        have a := h i (by omega)
        have b := hne i hi
        have c := h (m + 1) (by omega)
        split <;> omega)
      refine ⟨i, j, h1, by omega, ?_⟩
      have a := hne i (by omega)
      have b := hne j (by omega)
      split at h3 <;> split at h3 <;> omega

theorem pow_cancel {a m i d : Nat} (hc : Nat.gcd a m = 1) (hm : 0 < m) (h : a ^ i % m = a ^ (i + d) % m) : a ^ d % m = 1 % m := by
  have hcop : Nat.Coprime (a ^ i) m := Nat.Coprime.pow_left i hc
  -- m divides a^i * (a^d - 1)
  by_cases ha : a ^ d = 0
  · have : a = 0 := by
      rcases Nat.eq_zero_or_pos a with h0 | h0
      · exact h0
      · have := Nat.pow_pos (n := d) h0; omega
    subst this
    rw [Nat.gcd_zero_left] at hc
    subst hc
    omega
  · have hpos : 1 ≤ a ^ d := by omega
    have hdvd : m ∣ a ^ i * (a ^ d - 1) := by
      have e : a ^ (i + d) = a ^ i + a ^ i * (a ^ d - 1) := by
        rw [Nat.pow_add, Nat.mul_sub, Nat.mul_one]
        have : a ^ i * 1 ≤ a ^ i * a ^ d := Nat.mul_le_mul_left _ hpos
        omega
      rw [e] at h
      have h2 := Nat.sub_mod_eq_zero_of_mod_eq h.symm
      rw [Nat.add_sub_cancel_left] at h2
      exact Nat.dvd_of_mod_eq_zero h2
    have hd := Nat.Coprime.dvd_of_dvd_mul_left hcop.symm hdvd
    obtain ⟨q, hq⟩ := hd
    have : a ^ d = 1 + m * q := by omega
    rw [this]; simp [Nat.add_mul_mod_self_left]
theorem order_exists {a m : Nat} (hm : 0 < m) (hc : Nat.gcd a m = 1) : ∃ e, 1 ≤ e ∧ e ≤ m ∧ a ^ e % m = 1 % m := by
  obtain ⟨i, j, h1, h2, h3⟩ := php m (fun i => a ^ i % m) (fun i _ => Nat.mod_lt _ hm)
  refine ⟨j - i, by omega, by omega, pow_cancel (i := i) hc hm ?_⟩
  rw [show i + (j - i) = j from by omega]; exact h3
theorem order_none {a m e : Nat} (he : 1 ≤ e) (hc : Nat.gcd a m ≠ 1) : a ^ e % m ≠ 1 % m := by
  intro h
  have hg1 : Nat.gcd a m ∣ a ^ e := by
    obtain ⟨k, rfl⟩ : ∃ k, e = k + 1 := ⟨e - 1, by omega⟩
    rw [Nat.pow_succ]
    exact Nat.dvd_trans (Nat.gcd_dvd_left a m) (Nat.dvd_mul_left _ _)
  have hg2 := Nat.gcd_dvd_right a m
  have h3 : Nat.gcd a m ∣ a ^ e % m := (Nat.dvd_mod_iff hg2).2 hg1
  rw [h] at h3
  have h4 := (Nat.dvd_mod_iff hg2).1 h3
  exact hc (Nat.dvd_one.1 h4)

theorem one_mod (M : Nat) : ((1 : Int) % (M : Int)) = ((1 % M : Nat) : Int) := by rw [Int.natCast_emod]; rfl
def pw (a m : Int) : Nat → Int
  | 0 => 1 % m
  | k + 1 => pw a m k * a % m
theorem pw_nat (A M : Nat) : ∀ k, pw A M k = ((A ^ k % M : Nat) : Int)
  | 0 => by rw [pw, Nat.pow_zero]; exact one_mod M
  | k + 1 => by
    rw [pw, pw_nat A M k, Nat.pow_succ]
    rw [← Int.natCast_mul, ← Int.natCast_emod, Nat.mod_mul_mod]
theorem pw_one (a m : Int) (h : 1 ≤ m) : pw a m 1 = a % m := by
  rw [pw, pw]
  by_cases h1 : m = 1
  · subst h1; simp
  · have e : (1 : Int) % m = 1 := Int.emod_eq_of_lt (by omega) (by omega)
    rw [e, Int.one_mul]
def ordP (a m : Int) : Int → Bool := fun x => pw a m (x.toNat + 1) == 1 % m
def ordE (a m : Int) : Int := match findUp (ordP a m) m.toNat 0 with | some x => x + 1 | none => 0
def ordOut (a m : Int) : Int × Int := if resB a m then (if ordE a m = 0 then (0, 3) else (ordE a m, 0)) else (0, 2)
theorem findUp_none (p : Int → Bool) : ∀ (n : Nat) (x : Int), findUp p n x = none → ∀ y, x ≤ y → y < x + n → p y = false
  | 0, x, _, y, h1, h2 => by omega
  | n + 1, x, h, y, h1, h2 => by
    rw [findUp] at h
    by_cases hp : p x = true
    · rw [if_pos hp] at h; cases h
    · rw [if_neg hp] at h
      by_cases e : y = x
      · subst e; simpa using hp
      · exact findUp_none p n (x + 1) h y (by omega) (by omega)
theorem ord_ex {a m : Int} (hr : resB a m = true) (hg : gcdOut a m = 1) : findUp (ordP a m) m.toNat 0 ≠ none := by
  obtain ⟨h1, h2, h3, h4⟩ := resB_t hr
  intro hn
  obtain ⟨A, rfl⟩ := Int.eq_ofNat_of_zero_le h3
  obtain ⟨M, rfl⟩ := Int.eq_ofNat_of_zero_le (show 0 ≤ m by omega)
  have hgn : Nat.gcd A M = 1 := by unfold gcdOut at hg; simp at hg; omega
  obtain ⟨e, e1, e2, e3⟩ := order_exists (a := A) (m := M) (by omega) hgn
  have hp := findUp_none _ _ _ hn ((e : Int) - 1) (by omega) (by simp; omega)
  unfold ordP at hp
  rw [show ((e : Int) - 1).toNat + 1 = e from by omega, pw_nat, e3] at hp
  simp at hp
theorem ord_no {a m : Int} (hr : resB a m = true) (hg : ¬ gcdOut a m = 1) : findUp (ordP a m) m.toNat 0 = none := by
  obtain ⟨h1, h2, h3, h4⟩ := resB_t hr
  obtain ⟨A, rfl⟩ := Int.eq_ofNat_of_zero_le h3
  obtain ⟨M, rfl⟩ := Int.eq_ofNat_of_zero_le (show 0 ≤ m by omega)
  have hgn : Nat.gcd A M ≠ 1 := by intro h; apply hg; unfold gcdOut; simp [h]
  have : ∀ (n : Nat) (x : Int), 0 ≤ x → findUp (ordP A M) n x = none := by
    intro n
    induction n with
    | zero => intro x _; rfl
    | succ n ih =>
      intro x hx
      rw [findUp, if_neg, ih (x + 1) (by omega)]
      unfold ordP
      rw [pw_nat]
      have := order_none (a := A) (m := M) (e := x.toNat + 1) (by omega) hgn
      simp only [beq_iff_eq]
      intro h
      apply this
      rw [one_mod] at h
      omega
  exact this _ 0 (by omega)
theorem ord_hit {a m k : Int} (hk : k < m) (h : upMid (ordP a m) m k) (hf : pw a m (k.toNat + 1) = 1 % m) : ordE a m = k + 1 := by
  rw [ordE, upMid_hit hk h (by simpa [ordP] using hf)]
theorem ord_next {a m k : Int} (hk : k < m) (h : upMid (ordP a m) m k) (hf : ¬ pw a m (k.toNat + 1) = 1 % m) : upMid (ordP a m) m (k + 1) :=
  upMid_next hk h (by simpa [ordP] using hf)
theorem ord_end {a m : Int} (h : upMid (ordP a m) m m) : ordE a m = 0 := by rw [ordE, upMid_end h]
theorem pw_bd {a m : Int} (hm : 1 ≤ m) (k : Nat) : 0 ≤ pw a m k ∧ pw a m k ≤ m - 1 := by
  cases k with
  | zero => exact ⟨Int.emod_nonneg _ (by omega), by have := Int.emod_lt_of_pos 1 (show 0 < m by omega); rw [pw]; omega⟩
  | succ k => exact ⟨Int.emod_nonneg _ (by omega), by have := Int.emod_lt_of_pos (pw a m k * a) (show 0 < m by omega); rw [pw]; omega⟩
theorem pw_next (a m : Int) {k : Int} (hk : 0 ≤ k) : pw a m ((k + 1).toNat + 1) = pw a m (k.toNat + 1) * a % m := by
  rw [show (k + 1).toNat + 1 = (k.toNat + 1) + 1 from by omega, pw]

theorem i_OrderMod (a m : Int) (w : World) :
    Calls Try.prog 16 #[.int .i64 a, .int .i64 m] w fun e w' => e = .returned (.tuple #[.int .i64 (ordOut a m).1, .int .i64 (ordOut a m).2]) ∧ w = w' := by
  cases hr : resB a m
  · have G : Hid (ordOut a m = (0, 2)) := Lib.hid (by simp [ordOut, hr])
    go_enter Try.func16, Try.ntmps16
    go_wp2_with (go_at_call 48; refine (i_residue _ _ _).mono ?_; rintro e w' ⟨rfl, rfl⟩)
    go_ret2
    exact ⟨ret_i64_2 (by rw [G.out]) (by rw [G.out]), rfl⟩
  · have ⟨h1, h2, h3, h4⟩ := resB_t hr
    have HR := Lib.hid hr
    go_enter Try.func16, Try.ntmps16
    go_wp2_with (go_at_call 48; refine (i_residue _ _ _).mono ?_; rintro e w' ⟨rfl, rfl⟩)
    clear hr
    go_loop [6, 7] (fun q e => ∃ k P : Int, 0 ≤ k ∧ k ≤ m ∧ e = .int .i64 (k + 1) ∧ q = .int .i64 P ∧ Hid (P = pw a m k.toNat) ∧ 0 ≤ P ∧ P ≤ m - 1 ∧ Hid (upMid (ordP a m) m k)) (fun _ e => (m + 1 - intOf e).toNat)
    case atStart => exact ⟨0, 1 % m, by omega, by omega, rfl, rfl, Lib.hid rfl, (pw_bd (a := a) h1 0).1, (pw_bd (a := a) h1 0).2, Lib.hid (upMid_start _ _)⟩
    case round =>
      obtain ⟨k, P, k1, k2, rfl, rfl, hP, p1, p2, hmid⟩ := hrel
      by_cases hlt : k < m
      · have hb := mulmod_bd p1 p2 h3 (show a < m by omega) h2
        have HP : Hid (P * a % m = pw a m (k.toNat + 1)) := Lib.hid (by rw [pw, hP.out])
        have q1 := Int.emod_nonneg (P * a) (show m ≠ 0 by omega)
        have q2 := Int.emod_lt_of_pos (P * a) (show 0 < m by omega)
        by_cases hf : P * a % m = 1 % m
        · have G : Hid (ordE a m = k + 1) := Lib.hid (ord_hit hlt hmid.out (by rw [← HP.out]; exact hf))
          have G2 : Hid (ordOut a m = (k + 1, 0)) := Lib.hid (by rw [ordOut, if_pos HR.out, G.out, if_neg (by omega)])
          have hf' : (P * a % m == 1 % m) = true := by simpa using hf
          clear hf
          go_wp2
          go_ret2
          exact ⟨ret_i64_2 (by rw [G2.out]) (by rw [G2.out]), rfl⟩
        · have G := Lib.hid (ord_next hlt hmid.out (by rw [← HP.out]; exact hf))
          have HP2 : Hid (P * a % m = pw a m (k + 1).toNat) := Lib.hid (by rw [HP.out]; congr 1; omega)
          have hf' : (P * a % m == 1 % m) = false := by simpa using hf
          clear hf
          go_wp2
          go_round
          case rel => exact ⟨k + 1, P * a % m, by omega, by omega, rfl, rfl, HP2, q1, by omega, G⟩
          case measure => simp only [intOf]; omega
      · obtain rfl : k = m := by omega
        have G := Lib.hid (ord_end hmid.out)
        have G2 : Hid (ordOut a k = (0, 3)) := Lib.hid (by rw [ordOut, if_pos HR.out, G.out, if_pos rfl])
        go_wp2
        go_ret2
        exact ⟨ret_i64_2 (by rw [G2.out]) (by rw [G2.out]), rfl⟩
theorem s_l02Order (a m : Int) (hr : resB a m = true) (w : World) :
    Calls Try.prog 47 #[.int .i64 a, .int .i64 m] w fun e w' => e = .returned (.int .i64 (ordE a m)) ∧ w = w' := by
  have ⟨h1, h2, h3, h4⟩ := resB_t hr
  by_cases hg : gcdOut a m = 1
  · have HX := Lib.hid (ord_ex hr hg)
    have hg' : (gcdOut a m != 1) = false := by simpa using hg
    have HM : Hid (a % m = pw a m (Int.toNat 0 + 1)) := Lib.hid (pw_one a m h1).symm
    have b0 := Int.emod_nonneg a (show m ≠ 0 by omega)
    have b1 := Int.emod_lt_of_pos a (show 0 < m by omega)
    clear hr hg
    go_enter Try.func47, Try.ntmps47
    go_wp2_with (go_at_call 71; refine (s_l02Gcd _ _ (by omega) (by omega) (by omega) (by omega) _).mono ?_; rintro e w' ⟨rfl, rfl⟩)
    go_loop [5, 6] (fun e x => ∃ k P : Int, 0 ≤ k ∧ k < m ∧ e = .int .i64 (k + 1) ∧ x = .int .i64 P ∧ Hid (P = pw a m (k.toNat + 1)) ∧ 0 ≤ P ∧ P ≤ m - 1 ∧ Hid (upMid (ordP a m) m k)) (fun e _ => (m + 1 - intOf e).toNat)
    case atStart => exact ⟨0, a % m, by omega, by omega, rfl, rfl, HM, b0, by omega, Lib.hid (upMid_start _ _)⟩
    case round =>
      clear b0 b1
      obtain ⟨k, P, k1, k2, rfl, rfl, hP, p1, p2, hmid⟩ := hrel
      by_cases hf : P = 1 % m
      · have G : Hid (ordE a m = k + 1) := Lib.hid (ord_hit k2 hmid.out (by rw [← hP.out]; exact hf))
        have hf' : (P != 1 % m) = false := by simpa using hf
        clear hf
        go_wp2
        go_ret
        exact ⟨ret_i64 G.out.symm, rfl⟩
      · have hb := mulmod_bd p1 p2 h3 (show a < m by omega) h2
        have q1 := Int.emod_nonneg (P * a) (show m ≠ 0 by omega)
        have q2 := Int.emod_lt_of_pos (P * a) (show 0 < m by omega)
        have G := ord_next k2 hmid.out (by rw [← hP.out]; exact hf)
        have hlt : k + 1 < m := by
          rcases Int.lt_or_le (k + 1) m with h | h
          · exact h
          · have e : k + 1 = m := by omega
            rw [e] at G
            exact absurd (upMid_end G) HX.out
        have HG := Lib.hid G
        have HP2 : Hid (P * a % m = pw a m ((k + 1).toNat + 1)) := Lib.hid (by rw [pw_next a m k1, hP.out])
        have hf' : (P != 1 % m) = true := by simpa using hf
        clear hf G
        go_wp2
        go_round
        case rel => exact ⟨k + 1, P * a % m, by omega, hlt, rfl, rfl, HP2, q1, by omega, HG⟩
        case measure => simp only [intOf]; omega
  · have G : Hid (ordE a m = 0) := Lib.hid (by rw [ordE, ord_no hr hg])
    have hg' : (gcdOut a m != 1) = true := by simpa using hg
    clear hr hg
    go_enter Try.func47, Try.ntmps47
    go_wp2_with (go_at_call 71; refine (s_l02Gcd _ _ (by omega) (by omega) (by omega) (by omega) _).mono ?_; rintro e w' ⟨rfl, rfl⟩)
    go_ret
    exact ⟨ret_i64 G.out.symm, rfl⟩
theorem s_OrderMod (a m : Int) (w : World) :
    Calls Try.prog 15 #[.int .i64 a, .int .i64 m] w fun e w' => e = .returned (.tuple #[.int .i64 (ordOut a m).1, .int .i64 (ordOut a m).2]) ∧ w = w' := by
  cases hr : resB a m
  · have G : Hid (ordOut a m = (0, 2)) := Lib.hid (by simp [ordOut, hr])
    go_enter Try.func15, Try.ntmps15
    go_wp2_with (go_at_call 46; refine (s_residue _ _ _).mono ?_; rintro e w' ⟨rfl, rfl⟩)
    go_ret2
    exact ⟨ret_i64_2 (by rw [G.out]) (by rw [G.out]), rfl⟩
  · have HR := Lib.hid hr
    by_cases h0 : ordE a m = 0
    · have G : Hid (ordOut a m = (0, 3)) := Lib.hid (by rw [ordOut, if_pos hr, if_pos h0])
      have h0' : (ordE a m == 0) = true := by simpa using h0
      clear h0
      go_enter Try.func15, Try.ntmps15
      go_wp2_with (first | (go_at_call 46; refine (s_residue _ _ _).mono ?_; rintro e w' ⟨rfl, rfl⟩) | (go_at_call 47; refine (s_l02Order _ _ HR.out _).mono ?_; rintro e w' ⟨rfl, rfl⟩))
      go_ret2
      exact ⟨ret_i64_2 (by rw [G.out]) (by rw [G.out]), rfl⟩
    · have G : Hid (ordOut a m = (ordE a m, 0)) := Lib.hid (by rw [ordOut, if_pos hr, if_neg h0])
      have h0' : (ordE a m == 0) = false := by simpa using h0
      clear h0
      go_enter Try.func15, Try.ntmps15
      go_wp2_with (first | (go_at_call 46; refine (s_residue _ _ _).mono ?_; rintro e w' ⟨rfl, rfl⟩) | (go_at_call 47; refine (s_l02Order _ _ HR.out _).mono ?_; rintro e w' ⟨rfl, rfl⟩))
      go_ret2
      exact ⟨ret_i64_2 (by rw [G.out]) (by rw [G.out]), rfl⟩
theorem l_OrderMod (a m : Int) (w : World) :
    Calls Try.prog 3 #[.int .i64 a, .int .i64 m] w fun e w' => e = .returned (.bool true) ∧ Ext w w' := by
  go_enter Try.func3, Try.ntmps3
  go_wp2_with (first | (go_at_call 15; refine (s_OrderMod _ _ _).mono ?_; rintro e w1 ⟨rfl, rfl⟩) | (go_at_call 16; refine (i_OrderMod _ _ _).mono ?_; rintro e w2 ⟨rfl, rfl⟩))
  go_ret
  exact ⟨rfl, Ext.refl _⟩
end Go.Proofs.Ytnibjljamogbeaa
