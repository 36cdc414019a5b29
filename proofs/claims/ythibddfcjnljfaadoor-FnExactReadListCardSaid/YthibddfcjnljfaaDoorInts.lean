/- Contracts of the small functions on integers. No condition. -/
import Derived.Test.YthibddfcjnljfaaDoorBase
namespace Go.Proofs.YthibddfcjnljfaaDoor
open Go.RowKit

theorem s_in (n lo hi : Int) (w : World) :
    Calls Tryd.prog 30 #[.int .i64 n, .int .i64 lo, .int .i64 hi] w fun e w' => e = .returned (.bool (inB n lo hi)) ∧ w = w' := by
  by_cases h1 : lo ≤ n
  · by_cases h2 : n ≤ hi
    · have G := Lib.hid (inB_t ⟨h1, h2⟩)
      go_enter Tryd.func30, Tryd.ntmps30
      go_wp2
      go_ret
      exact ⟨ret_bool G.out.symm, rfl⟩
    · have G := Lib.hid (inB_f (n := n) (lo := lo) (hi := hi) (by omega))
      go_enter Tryd.func30, Tryd.ntmps30
      go_wp2
      go_ret
      exact ⟨ret_bool G.out.symm, rfl⟩
  · have G := Lib.hid (inB_f (n := n) (lo := lo) (hi := hi) (by omega))
    go_enter Tryd.func30, Tryd.ntmps30
    go_wp2
    go_ret
    exact ⟨ret_bool G.out.symm, rfl⟩
theorem i_in (n lo hi : Int) (w : World) :
    Calls Tryd.prog 33 #[.int .i64 n, .int .i64 lo, .int .i64 hi] w fun e w' => e = .returned (.bool (inB n lo hi)) ∧ w = w' := by
  by_cases h1 : lo ≤ n
  · by_cases h2 : n ≤ hi
    · have G := Lib.hid (inB_t ⟨h1, h2⟩)
      go_enter Tryd.func33, Tryd.ntmps33
      go_wp2
      go_ret
      exact ⟨ret_bool G.out.symm, rfl⟩
    · have G := Lib.hid (inB_f (n := n) (lo := lo) (hi := hi) (by omega))
      go_enter Tryd.func33, Tryd.ntmps33
      go_wp2
      go_ret
      exact ⟨ret_bool G.out.symm, rfl⟩
  · have G := Lib.hid (inB_f (n := n) (lo := lo) (hi := hi) (by omega))
    go_enter Tryd.func33, Tryd.ntmps33
    go_wp2
    go_ret
    exact ⟨ret_bool G.out.symm, rfl⟩
def resB (a m : Int) : Bool := inB m 1 1000 && inB a 0 (m - 1)
theorem resB_t {a m : Int} (h : resB a m = true) : 1 ≤ m ∧ m ≤ 1000 ∧ 0 ≤ a ∧ a ≤ m - 1 := by
  simp only [resB, Bool.and_eq_true, inB_iff] at h; omega
theorem mulmod_bd {a x m : Int} (ha : 0 ≤ a) (ha' : a ≤ m - 1) (hx : 0 ≤ x) (hx' : x < m) (hm : m ≤ 1000) : 0 ≤ a * x ∧ a * x ≤ 1000000 := by
  refine ⟨Int.mul_nonneg ha hx, ?_⟩
  calc a * x ≤ 1000 * 1000 := Int.mul_le_mul (by omega) (by omega) hx (by omega)
    _ = 1000000 := rfl

end Go.Proofs.YthibddfcjnljfaaDoor
