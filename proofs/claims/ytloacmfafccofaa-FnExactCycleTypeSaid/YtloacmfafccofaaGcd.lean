/- Gcd and SolveChinese: the walks of the program and of the reference, and the laws. No condition. -/
import Derived.Test.YtloacmfafccofaaInts
import Derived.Test.YtloacmfafccofaaMem
namespace Go.Proofs.Ytloacmfafccofaa
open Go.RowKit

theorem gcd_step (a b : Nat) : Nat.gcd b (a % b) = Nat.gcd a b := by
  rw [Nat.gcd_comm a b, Nat.gcd_rec b a, Nat.gcd_comm]
def gcdOut (a b : Int) : Int := (Nat.gcd a.natAbs b.natAbs : Int)

theorem i_gcd (a b : Nat) (ha : a ≤ 1000000) (hb : b ≤ 1000000) (w : World) :
    Calls Try.prog 53 #[.int .i64 a, .int .i64 b] w fun e w' => e = .returned (.int .i64 (Nat.gcd a b : Nat)) ∧ Drawn w w' := by
  have hs : Hid (Nat.gcd a b = Nat.gcd a b) := Lib.hid rfl
  generalize hr : Nat.gcd a b = r at *
  have HR := Lib.hid hr
  clear hr hs
  go_enter Try.func53, Try.ntmps53
  go_wp2
  go_loopw [0, 1] (fun u v wr => ∃ x y : Nat, u = .int .i64 x ∧ v = .int .i64 y ∧ x ≤ 1000000 ∧ y ≤ 1000000 ∧ Hid (Nat.gcd x y = r) ∧ Drawn w wr) (fun _ v _ => (intOf v).toNat)
  case atStart => exact ⟨a, b, rfl, rfl, ha, hb, HR, Drawn.refl _⟩
  case round =>
    obtain ⟨x, y, rfl, rfl, hx, hy, hm, hd⟩ := hrel
    by_cases h0 : y = 0
    · subst h0
      have G : Hid (x = r) := Lib.hid (by have := hm.out; rwa [Nat.gcd_zero_right] at this)
      go_wp2
      go_ret
      exact ⟨by rw [← G.out]; rfl, hd⟩
    · have hlt := Nat.mod_lt x (show 0 < y by omega)
      have G : Hid (Nat.gcd y (x % y) = r) := Lib.hid (by rw [gcd_step]; exact hm.out)
      have hne : ((y : Int) != 0) = true := by rw [bne_iff_ne]; omega
      have hc : ((x : Int) % (y : Int)) = ((x % y : Nat) : Int) := by omega
      have HC := Lib.hid hc
      clear hc
      go_wp2
      go_quiet (fail)
      go_wp2
      exact ⟨⟨y, x % y, rfl, vint HC.out, hy, by omega, G, hd.drewN _⟩, by have := HC.out; simp only [intOf]; omega⟩
theorem i_gcdI (a b : Int) (ha0 : 0 ≤ a) (ha : a ≤ 1000000) (hb0 : 0 ≤ b) (hb : b ≤ 1000000) (w : World) :
    Calls Try.prog 53 #[.int .i64 a, .int .i64 b] w fun e w' => e = .returned (.int .i64 (gcdOut a b)) ∧ Drawn w w' := by
  obtain ⟨x, rfl⟩ := Int.eq_ofNat_of_zero_le ha0
  obtain ⟨y, rfl⟩ := Int.eq_ofNat_of_zero_le hb0
  exact i_gcd x y (by omega) (by omega) w
theorem s_l02Gcd (a b : Int) (ha : -1000000 ≤ a) (ha' : a ≤ 1000000) (hb : -1000000 ≤ b) (hb' : b ≤ 1000000) (w : World) :
    Calls Try.prog 52 #[.int .i64 a, .int .i64 b] w fun e w' => e = .returned (.int .i64 (gcdOut a b)) ∧ w = w' := by
  obtain ⟨x, HX⟩ : ∃ x : Nat, Hid (a.natAbs = x) := ⟨_, Lib.hid rfl⟩
  obtain ⟨y, HY⟩ : ∃ y : Nat, Hid (b.natAbs = y) := ⟨_, Lib.hid rfl⟩
  obtain ⟨r, HR⟩ : ∃ r : Nat, Hid (Nat.gcd x y = r) := ⟨_, Lib.hid rfl⟩
  have HO : Hid (gcdOut a b = (r : Int)) := Lib.hid (by rw [gcdOut, HX.out, HY.out, HR.out])
  by_cases h1 : a < 0 <;> by_cases h2 : b < 0
  all_goals
    go_enter Try.func52, Try.ntmps52
    go_wp2
    go_loop [0, 1] (fun u v => ∃ x y : Nat, u = .int .i64 x ∧ v = .int .i64 y ∧ x ≤ 1000000 ∧ y ≤ 1000000 ∧ Hid (Nat.gcd x y = r)) (fun _ v => (intOf v).toNat)
    case atStart => exact ⟨x, y, vint (by have := HX.out; omega), vint (by have := HY.out; omega), by have := HX.out; omega, by have := HY.out; omega, HR⟩
    case round =>
      obtain ⟨x', y', rfl, rfl, hx, hy, hm⟩ := hrel
      by_cases h0 : y' = 0
      · subst h0
        have G : Hid (x' = r) := Lib.hid (by have := hm.out; rwa [Nat.gcd_zero_right] at this)
        go_wp2
        go_ret
        exact ⟨by rw [HO.out, ← G.out]; rfl, rfl⟩
      · have hlt := Nat.mod_lt x' (show 0 < y' by omega)
        have G : Hid (Nat.gcd y' (x' % y') = r) := Lib.hid (by rw [gcd_step]; exact hm.out)
        have hpos : (0 : Int) < (y' : Int) := by omega
        have hc : ((x' : Int) % (y' : Int)) = ((x' % y' : Nat) : Int) := by omega
        have HC := Lib.hid hc
        clear hc
        go_wp2
        go_round
        case rel => exact ⟨y', x' % y', rfl, vint HC.out, hy, by omega, G⟩
        case measure => have := HC.out; simp only [intOf]; omega
theorem s_gcdI (a b : Int) (ha0 : 0 ≤ a) (ha : a ≤ 1000000) (hb0 : 0 ≤ b) (hb : b ≤ 1000000) (w : World) :
    Calls Try.prog 52 #[.int .i64 a, .int .i64 b] w fun e w' => e = .returned (.int .i64 (gcdOut a b)) ∧ Drawn w w' :=
  (s_l02Gcd a b (by omega) ha (by omega) hb w).mono fun _ _ ⟨h1, h2⟩ => ⟨h1, h2 ▸ Drawn.refl _⟩
def gcdFull (a b : Int) : Int := if inB a (-1000000) 1000000 && inB b (-1000000) 1000000 then gcdOut a b else 0
end Go.Proofs.Ytloacmfafccofaa
