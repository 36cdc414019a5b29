/- Contracts of the small functions on integers. No condition. -/
import Derived.Test.YtnibjljamogbeaaBase
namespace Go.Proofs.Ytnibjljamogbeaa
open Go.RowKit

theorem s_in (n lo hi : Int) (w : World) :
    Calls Try.prog 50 #[.int .i64 n, .int .i64 lo, .int .i64 hi] w fun e w' => e = .returned (.bool (inB n lo hi)) ∧ w = w' := by
  by_cases h1 : lo ≤ n
  · by_cases h2 : n ≤ hi
    · have G := Lib.hid (inB_t ⟨h1, h2⟩)
      go_enter Try.func50, Try.ntmps50
      go_wp2
      go_ret
      exact ⟨ret_bool G.out.symm, rfl⟩
    · have G := Lib.hid (inB_f (n := n) (lo := lo) (hi := hi) (by omega))
      go_enter Try.func50, Try.ntmps50
      go_wp2
      go_ret
      exact ⟨ret_bool G.out.symm, rfl⟩
  · have G := Lib.hid (inB_f (n := n) (lo := lo) (hi := hi) (by omega))
    go_enter Try.func50, Try.ntmps50
    go_wp2
    go_ret
    exact ⟨ret_bool G.out.symm, rfl⟩
theorem i_in (n lo hi : Int) (w : World) :
    Calls Try.prog 52 #[.int .i64 n, .int .i64 lo, .int .i64 hi] w fun e w' => e = .returned (.bool (inB n lo hi)) ∧ w = w' := by
  by_cases h1 : lo ≤ n
  · by_cases h2 : n ≤ hi
    · have G := Lib.hid (inB_t ⟨h1, h2⟩)
      go_enter Try.func52, Try.ntmps52
      go_wp2
      go_ret
      exact ⟨ret_bool G.out.symm, rfl⟩
    · have G := Lib.hid (inB_f (n := n) (lo := lo) (hi := hi) (by omega))
      go_enter Try.func52, Try.ntmps52
      go_wp2
      go_ret
      exact ⟨ret_bool G.out.symm, rfl⟩
  · have G := Lib.hid (inB_f (n := n) (lo := lo) (hi := hi) (by omega))
    go_enter Try.func52, Try.ntmps52
    go_wp2
    go_ret
    exact ⟨ret_bool G.out.symm, rfl⟩
theorem s_modulus (m : Int) (w : World) :
    Calls Try.prog 54 #[.int .i64 m] w fun e w' => e = .returned (.bool (inB m 1 1000)) ∧ w = w' := by
  go_enter Try.func54, Try.ntmps54
  go_wp2_with (go_at_call 50; refine (s_in _ _ _ _).mono ?_; rintro e w' ⟨rfl, rfl⟩)
  go_ret
  exact ⟨rfl, rfl⟩
theorem i_modulus (m : Int) (w : World) :
    Calls Try.prog 55 #[.int .i64 m] w fun e w' => e = .returned (.bool (inB m 1 1000)) ∧ w = w' := by
  go_enter Try.func55, Try.ntmps55
  go_wp2_with (go_at_call 52; refine (i_in _ _ _ _).mono ?_; rintro e w' ⟨rfl, rfl⟩)
  go_ret
  exact ⟨rfl, rfl⟩
def resB (a m : Int) : Bool := inB m 1 1000 && inB a 0 (m - 1)
theorem resB_t {a m : Int} (h : resB a m = true) : 1 ≤ m ∧ m ≤ 1000 ∧ 0 ≤ a ∧ a ≤ m - 1 := by
  simp only [resB, Bool.and_eq_true, inB_iff] at h; omega
theorem mulmod_bd {a x m : Int} (ha : 0 ≤ a) (ha' : a ≤ m - 1) (hx : 0 ≤ x) (hx' : x < m) (hm : m ≤ 1000) : 0 ≤ a * x ∧ a * x ≤ 1000000 := by
  refine ⟨Int.mul_nonneg ha hx, ?_⟩
  calc a * x ≤ 1000 * 1000 := Int.mul_le_mul (by omega) (by omega) hx (by omega)
    _ = 1000000 := rfl
theorem s_residue (a m : Int) (w : World) :
    Calls Try.prog 46 #[.int .i64 a, .int .i64 m] w fun e w' => e = .returned (.bool (resB a m)) ∧ w = w' := by
  cases hm : inB m 1 1000
  · have G : Hid (resB a m = false) := Lib.hid (by simp [resB, hm])
    go_enter Try.func46, Try.ntmps46
    go_wp2_with (first | (go_at_call 54; refine (s_modulus _ _).mono ?_; rintro e w' ⟨rfl, rfl⟩) | (go_at_call 50; refine (s_in _ _ _ _).mono ?_; rintro e w' ⟨rfl, rfl⟩))
    go_ret
    exact ⟨ret_bool G.out.symm, rfl⟩
  · have G : Hid (resB a m = inB a 0 (m - 1)) := Lib.hid (by simp [resB, hm])
    have ⟨h1, h2⟩ := inB_iff.1 hm
    go_enter Try.func46, Try.ntmps46
    go_wp2_with (first | (go_at_call 54; refine (s_modulus _ _).mono ?_; rintro e w' ⟨rfl, rfl⟩) | (go_at_call 50; refine (s_in _ _ _ _).mono ?_; rintro e w' ⟨rfl, rfl⟩))
    go_ret
    exact ⟨ret_bool G.out.symm, rfl⟩
theorem i_residue (a m : Int) (w : World) :
    Calls Try.prog 48 #[.int .i64 a, .int .i64 m] w fun e w' => e = .returned (.bool (resB a m)) ∧ w = w' := by
  cases hm : inB m 1 1000
  · have G : Hid (resB a m = false) := Lib.hid (by simp [resB, hm])
    go_enter Try.func48, Try.ntmps48
    go_wp2_with (first | (go_at_call 55; refine (i_modulus _ _).mono ?_; rintro e w' ⟨rfl, rfl⟩) | (go_at_call 52; refine (i_in _ _ _ _).mono ?_; rintro e w' ⟨rfl, rfl⟩))
    go_ret
    exact ⟨ret_bool G.out.symm, rfl⟩
  · have G : Hid (resB a m = inB a 0 (m - 1)) := Lib.hid (by simp [resB, hm])
    have ⟨h1, h2⟩ := inB_iff.1 hm
    go_enter Try.func48, Try.ntmps48
    go_wp2_with (first | (go_at_call 55; refine (i_modulus _ _).mono ?_; rintro e w' ⟨rfl, rfl⟩) | (go_at_call 52; refine (i_in _ _ _ _).mono ?_; rintro e w' ⟨rfl, rfl⟩))
    go_ret
    exact ⟨ret_bool G.out.symm, rfl⟩

end Go.Proofs.Ytnibjljamogbeaa
