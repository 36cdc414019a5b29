/- IsSquareMod: the walks of the program and of the reference, and the law. No condition. -/
import Derived.Test.YtnibjljamogbeaaInts
import Derived.Test.YtnibjljamogbeaaMem
namespace Go.Proofs.Ytnibjljamogbeaa
open Go.RowKit

def sqP (a m : Int) : Int → Bool := fun x => x * x % m == a
def sqOut (a m : Int) : Bool := resB a m && !(a == 0) && (findUp (sqP a m) m.toNat 0).isSome
theorem sq_hit {a m x : Int} (hr : resB a m = true) (h0 : (a == 0) = false) (hx : x < m) (h : upMid (sqP a m) m x) (hf : x * x % m = a) : sqOut a m = true := by
  rw [sqOut, upMid_hit hx h (by simpa [sqP] using hf)]; simp [hr, h0]
theorem sq_next {a m x : Int} (hx : x < m) (h : upMid (sqP a m) m x) (hf : ¬ (x * x % m = a)) : upMid (sqP a m) m (x + 1) :=
  upMid_next hx h (by simpa [sqP] using hf)
theorem sq_end {a m : Int} (h : upMid (sqP a m) m m) : sqOut a m = false := by
  rw [sqOut, upMid_end h]; simp

theorem i_IsSquareMod (a m : Int) (w : World) :
    Calls Try.prog 56 #[.int .i64 a, .int .i64 m] w fun e w' => e = .returned (.bool (sqOut a m)) ∧ w = w' := by
  cases hr : resB a m
  · have G : Hid (sqOut a m = false) := Lib.hid (by simp [sqOut, hr])
    go_enter Try.func56, Try.ntmps56
    go_wp2_with (go_at_call 48; refine (i_residue _ _ _).mono ?_; rintro e w' ⟨rfl, rfl⟩)
    go_ret
    exact ⟨ret_bool G.out.symm, rfl⟩
  · have ⟨h1, h2, h3, h4⟩ := resB_t hr
    cases h0 : (a == 0)
    · go_enter Try.func56, Try.ntmps56
      go_wp2_with (go_at_call 48; refine (i_residue _ _ _).mono ?_; rintro e w' ⟨rfl, rfl⟩)
      go_loop [5] (fun x => ∃ k : Int, 0 ≤ k ∧ k ≤ m ∧ x = .int .i64 k ∧ upMid (sqP a m) m k) (fun x => (m - intOf x).toNat)
      case atStart => exact ⟨0, by omega, by omega, rfl, upMid_start _ _⟩
      case round =>
        obtain ⟨k, k1, k2, rfl, hmid⟩ := hrel
        by_cases hlt : k < m
        · have hb := mulmod_bd k1 (show k ≤ m - 1 by omega) k1 hlt h2
          by_cases hf : k * k % m = a
          · have G := Lib.hid (sq_hit hr h0 hlt hmid hf)
            have HF := Lib.hid hf
            have hf' : (k * k % m == a) = true := by simpa using hf
            clear hf
            go_wp2
            go_ret
            exact ⟨ret_bool G.out.symm, rfl⟩
          · have G := Lib.hid (sq_next hlt hmid hf)
            have hf' : (k * k % m == a) = false := by simpa using hf
            go_wp2
            go_round
            case rel => exact ⟨k + 1, by omega, by omega, rfl, G.out⟩
            case measure => simp [intOf]; omega
        · obtain rfl : k = m := by omega
          have G := Lib.hid (sq_end hmid)
          go_wp2
          go_ret
          exact ⟨ret_bool G.out.symm, rfl⟩
    · have G : Hid (sqOut a m = false) := Lib.hid (by simp [sqOut, h0])
      go_enter Try.func56, Try.ntmps56
      go_wp2_with (go_at_call 48; refine (i_residue _ _ _).mono ?_; rintro e w' ⟨rfl, rfl⟩)
      go_ret
      exact ⟨ret_bool G.out.symm, rfl⟩

end Go.Proofs.Ytnibjljamogbeaa
