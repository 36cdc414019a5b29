/- Contracts of the small functions on integers. No condition. -/
import Derived.Test.YtfdlhiohbhpocaaBase
namespace Go.Proofs.Ytfdlhiohbhpocaa
open Go.RowKit

theorem s_in (n lo hi : Int) (w : World) :
    Calls Try.prog 39 #[.int .i64 n, .int .i64 lo, .int .i64 hi] w fun e w' => e = .returned (.bool (inB n lo hi)) ∧ w = w' := by
  by_cases h1 : lo ≤ n
  · by_cases h2 : n ≤ hi
    · have G := Lib.hid (inB_t ⟨h1, h2⟩)
      go_enter Try.func39, Try.ntmps39
      go_wp2
      go_ret
      exact ⟨ret_bool G.out.symm, rfl⟩
    · have G := Lib.hid (inB_f (n := n) (lo := lo) (hi := hi) (by omega))
      go_enter Try.func39, Try.ntmps39
      go_wp2
      go_ret
      exact ⟨ret_bool G.out.symm, rfl⟩
  · have G := Lib.hid (inB_f (n := n) (lo := lo) (hi := hi) (by omega))
    go_enter Try.func39, Try.ntmps39
    go_wp2
    go_ret
    exact ⟨ret_bool G.out.symm, rfl⟩
theorem i_in (n lo hi : Int) (w : World) :
    Calls Try.prog 40 #[.int .i64 n, .int .i64 lo, .int .i64 hi] w fun e w' => e = .returned (.bool (inB n lo hi)) ∧ w = w' := by
  by_cases h1 : lo ≤ n
  · by_cases h2 : n ≤ hi
    · have G := Lib.hid (inB_t ⟨h1, h2⟩)
      go_enter Try.func40, Try.ntmps40
      go_wp2
      go_ret
      exact ⟨ret_bool G.out.symm, rfl⟩
    · have G := Lib.hid (inB_f (n := n) (lo := lo) (hi := hi) (by omega))
      go_enter Try.func40, Try.ntmps40
      go_wp2
      go_ret
      exact ⟨ret_bool G.out.symm, rfl⟩
  · have G := Lib.hid (inB_f (n := n) (lo := lo) (hi := hi) (by omega))
    go_enter Try.func40, Try.ntmps40
    go_wp2
    go_ret
    exact ⟨ret_bool G.out.symm, rfl⟩
theorem s_modulus (m : Int) (w : World) :
    Calls Try.prog 53 #[.int .i64 m] w fun e w' => e = .returned (.bool (inB m 1 1000)) ∧ w = w' := by
  go_enter Try.func53, Try.ntmps53
  go_wp2_with (go_at_call 39; refine (s_in _ _ _ _).mono ?_; rintro e w' ⟨rfl, rfl⟩)
  go_ret
  exact ⟨rfl, rfl⟩
theorem i_modulus (m : Int) (w : World) :
    Calls Try.prog 54 #[.int .i64 m] w fun e w' => e = .returned (.bool (inB m 1 1000)) ∧ w = w' := by
  go_enter Try.func54, Try.ntmps54
  go_wp2_with (go_at_call 40; refine (i_in _ _ _ _).mono ?_; rintro e w' ⟨rfl, rfl⟩)
  go_ret
  exact ⟨rfl, rfl⟩
def resB (a m : Int) : Bool := inB m 1 1000 && inB a 0 (m - 1)
theorem resB_t {a m : Int} (h : resB a m = true) : 1 ≤ m ∧ m ≤ 1000 ∧ 0 ≤ a ∧ a ≤ m - 1 := by
  simp only [resB, Bool.and_eq_true, inB_iff] at h; omega
theorem mulmod_bd {a x m : Int} (ha : 0 ≤ a) (ha' : a ≤ m - 1) (hx : 0 ≤ x) (hx' : x < m) (hm : m ≤ 1000) : 0 ≤ a * x ∧ a * x ≤ 1000000 := by
  refine ⟨Int.mul_nonneg ha hx, ?_⟩
  calc a * x ≤ 1000 * 1000 := Int.mul_le_mul (by omega) (by omega) hx (by omega)
    _ = 1000000 := rfl
theorem s_residue (a m : Int) (w : World) :
    Calls Try.prog 43 #[.int .i64 a, .int .i64 m] w fun e w' => e = .returned (.bool (resB a m)) ∧ w = w' := by
  cases hm : inB m 1 1000
  · have G : Hid (resB a m = false) := Lib.hid (by simp [resB, hm])
    go_enter Try.func43, Try.ntmps43
    go_wp2_with (first | (go_at_call 53; refine (s_modulus _ _).mono ?_; rintro e w' ⟨rfl, rfl⟩) | (go_at_call 39; refine (s_in _ _ _ _).mono ?_; rintro e w' ⟨rfl, rfl⟩))
    go_ret
    exact ⟨ret_bool G.out.symm, rfl⟩
  · have G : Hid (resB a m = inB a 0 (m - 1)) := Lib.hid (by simp [resB, hm])
    have ⟨h1, h2⟩ := inB_iff.1 hm
    go_enter Try.func43, Try.ntmps43
    go_wp2_with (first | (go_at_call 53; refine (s_modulus _ _).mono ?_; rintro e w' ⟨rfl, rfl⟩) | (go_at_call 39; refine (s_in _ _ _ _).mono ?_; rintro e w' ⟨rfl, rfl⟩))
    go_ret
    exact ⟨ret_bool G.out.symm, rfl⟩
theorem i_residue (a m : Int) (w : World) :
    Calls Try.prog 44 #[.int .i64 a, .int .i64 m] w fun e w' => e = .returned (.bool (resB a m)) ∧ w = w' := by
  cases hm : inB m 1 1000
  · have G : Hid (resB a m = false) := Lib.hid (by simp [resB, hm])
    go_enter Try.func44, Try.ntmps44
    go_wp2_with (first | (go_at_call 54; refine (i_modulus _ _).mono ?_; rintro e w' ⟨rfl, rfl⟩) | (go_at_call 40; refine (i_in _ _ _ _).mono ?_; rintro e w' ⟨rfl, rfl⟩))
    go_ret
    exact ⟨ret_bool G.out.symm, rfl⟩
  · have G : Hid (resB a m = inB a 0 (m - 1)) := Lib.hid (by simp [resB, hm])
    have ⟨h1, h2⟩ := inB_iff.1 hm
    go_enter Try.func44, Try.ntmps44
    go_wp2_with (first | (go_at_call 54; refine (i_modulus _ _).mono ?_; rintro e w' ⟨rfl, rfl⟩) | (go_at_call 40; refine (i_in _ _ _ _).mono ?_; rintro e w' ⟨rfl, rfl⟩))
    go_ret
    exact ⟨ret_bool G.out.symm, rfl⟩

end Go.Proofs.Ytfdlhiohbhpocaa
