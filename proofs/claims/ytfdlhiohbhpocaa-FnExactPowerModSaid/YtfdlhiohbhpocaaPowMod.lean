/- PowerMod: the walks of the program and of the reference, and the law. No condition. -/
import Derived.Test.YtfdlhiohbhpocaaInts
import Derived.Test.YtfdlhiohbhpocaaMem
namespace Go.Proofs.Ytfdlhiohbhpocaa
open Go.RowKit

def powTo (m : Int) : Nat → Int → Int → Int → Int
  | 0, out, _, _ => out
  | n + 1, out, a, e => if e ≤ 0 then out else powTo m n (if e % 2 = 1 then out * a % m else out) (a * a % m) (e / 2)
def powOut (a e m : Int) : Int × Int := if resB a m && inB e 0 1000000 then (powTo m 20 (1 % m) a e, 0) else (0, 2)
/-- After some rounds: k rounds are enough for the rest. -/
def powMid (m r out a e : Int) : Prop := ∃ k : Nat, e < 2 ^ k ∧ r = powTo m k out a e
theorem powMid_start {m a e : Int} (he : e ≤ 1000000) : powMid m (powTo m 20 (1 % m) a e) (1 % m) a e := ⟨20, by omega, rfl⟩
theorem powMid_end {m r out a e : Int} (h : powMid m r out a e) (he : e ≤ 0) : r = out := by
  obtain ⟨k, _, rfl⟩ := h
  cases k with
  | zero => rfl
  | succ k => simp [powTo, he]
theorem powMid_next {m r out a e : Int} (h : powMid m r out a e) (he : 0 < e) : powMid m r (if e % 2 = 1 then out * a % m else out) (a * a % m) (e / 2) := by
  obtain ⟨k, hk, rfl⟩ := h
  cases k with
  | zero => omega
  | succ k => exact ⟨k, by rw [Int.pow_succ] at hk; omega, by rw [powTo, if_neg (by omega)]⟩
theorem powMid_odd {m r out a e : Int} (h : powMid m r out a e) (he : 0 < e) (ho : e % 2 = 1) : powMid m r (out * a % m) (a * a % m) (e / 2) := by
  have := powMid_next h he; rwa [if_pos ho] at this
theorem powMid_even {m r out a e : Int} (h : powMid m r out a e) (he : 0 < e) (ho : ¬ e % 2 = 1) : powMid m r out (a * a % m) (e / 2) := by
  have := powMid_next h he; rwa [if_neg ho] at this
theorem mod_bd {x m : Int} (hm : 1 ≤ m) : 0 ≤ x % m ∧ x % m ≤ m - 1 := ⟨Int.emod_nonneg _ (by omega), by have := Int.emod_lt_of_pos x (show 0 < m by omega); omega⟩
theorem mul_bd {a b m : Int} (h2 : m ≤ 1000) (h3 : 0 ≤ a) (h4 : a ≤ m - 1) (h5 : 0 ≤ b) (h6 : b ≤ m - 1) : 0 ≤ a * b ∧ a * b ≤ 1000000 :=
  mulmod_bd h3 h4 h5 (by omega) h2

theorem s_l02Power (a e m : Int) (hr : resB a m = true) (he0 : 0 ≤ e) (he : e ≤ 1000000) (w : World) :
    Calls Try.prog 46 #[.int .i64 a, .int .i64 e, .int .i64 m] w fun en w' => en = .returned (.int .i64 (powTo m 20 (1 % m) a e)) ∧ w = w' := by
  have ⟨h1, h2, h3, h4⟩ := resB_t hr
  have ⟨p1, p2⟩ := mod_bd (x := 1) h1
  have hs := powMid_start (m := m) (a := a) he
  generalize powTo m 20 (1 % m) a e = r at *
  go_enter Try.func46, Try.ntmps46
  go_wp2
  go_loop [0, 1, 7] (fun a e out => ∃ a' e' o' : Int, a = .int .i64 a' ∧ e = .int .i64 e' ∧ out = .int .i64 o' ∧ 0 ≤ a' ∧ a' ≤ m - 1 ∧ 0 ≤ o' ∧ o' ≤ m - 1 ∧ 0 ≤ e' ∧ e' ≤ 1000000 ∧ powMid m r o' a' e') (fun _ e _ => (intOf e).toNat)
  case atStart => exact ⟨a, e, 1 % m, rfl, rfl, rfl, h3, h4, p1, p2, he0, he, hs⟩
  case round =>
    obtain ⟨a', e', o', rfl, rfl, rfl, a1, a2, o1, o2, e1, e2, hm⟩ := hrel
    have ⟨b1, b2⟩ := mul_bd h2 a1 a2 a1 a2
    have ⟨c1, c2⟩ := mul_bd h2 o1 o2 a1 a2
    have ⟨d1, d2⟩ := mod_bd (x := a' * a') h1
    have ⟨f1, f2⟩ := mod_bd (x := o' * a') h1
    by_cases hpos : 0 < e'
    · by_cases ho : e' % 2 = 1
      · have G := Lib.hid (powMid_odd hm hpos ho)
        clear hm hs
        go_wp2
        go_round
        case rel => exact ⟨_, _, _, rfl, rfl, rfl, d1, d2, f1, f2, by omega, by omega, G.out⟩
        case measure => simp [intOf]; omega
      · have G := Lib.hid (powMid_even hm hpos ho)
        clear hm hs
        have ho' : (e' % 2 == 1) = false := by simpa using ho
        go_wp2
        go_round
        case rel => exact ⟨_, _, _, rfl, rfl, rfl, d1, d2, o1, o2, by omega, by omega, G.out⟩
        case measure => simp [intOf]; omega
    · have G := Lib.hid (powMid_end hm (by omega))
      clear hm hs
      go_wp2
      go_ret
      exact ⟨ret_i64 G.out.symm, rfl⟩
theorem i_PowerMod (a e m : Int) (w : World) :
    Calls Try.prog 28 #[.int .i64 a, .int .i64 e, .int .i64 m] w fun en w' => en = .returned (.tuple #[.int .i64 (powOut a e m).1, .int .i64 (powOut a e m).2]) ∧ w = w' := by
  cases hr : resB a m
  · have G : Hid (powOut a e m = (0, 2)) := Lib.hid (by simp [powOut, hr])
    go_enter Try.func28, Try.ntmps28
    go_wp2_with (first | (go_at_call 44; refine (i_residue _ _ _).mono ?_; rintro e w' ⟨rfl, rfl⟩) | (go_at_call 40; refine (i_in _ _ _ _).mono ?_; rintro e w' ⟨rfl, rfl⟩))
    go_ret2
    exact ⟨ret_i64_2 (by rw [G.out]) (by rw [G.out]), rfl⟩
  · cases hE : inB e 0 1000000
    · have G : Hid (powOut a e m = (0, 2)) := Lib.hid (by simp [powOut, hE])
      go_enter Try.func28, Try.ntmps28
      go_wp2_with (first | (go_at_call 44; refine (i_residue _ _ _).mono ?_; rintro e w' ⟨rfl, rfl⟩) | (go_at_call 40; refine (i_in _ _ _ _).mono ?_; rintro e w' ⟨rfl, rfl⟩))
      go_ret2
      exact ⟨ret_i64_2 (by rw [G.out]) (by rw [G.out]), rfl⟩
    · have G : Hid (powOut a e m = (powTo m 20 (1 % m) a e, 0)) := Lib.hid (by simp [powOut, hr, hE])
      have ⟨h1, h2, h3, h4⟩ := resB_t hr
      obtain ⟨he0, he⟩ := inB_iff.1 hE
      have ⟨p1, p2⟩ := mod_bd (x := 1) h1
      have hs := Lib.hid (powMid_start (m := m) (a := a) he)
      generalize powTo m 20 (1 % m) a e = r at *
      go_enter Try.func28, Try.ntmps28
      go_wp2_with (first | (go_at_call 44; refine (i_residue _ _ _).mono ?_; rintro e w' ⟨rfl, rfl⟩) | (go_at_call 40; refine (i_in _ _ _ _).mono ?_; rintro e w' ⟨rfl, rfl⟩))
      clear hr hE
      go_loop [0, 1, 8] (fun a e out => ∃ a' e' o' : Int, a = .int .i64 a' ∧ e = .int .i64 e' ∧ out = .int .i64 o' ∧ 0 ≤ a' ∧ a' ≤ m - 1 ∧ 0 ≤ o' ∧ o' ≤ m - 1 ∧ 0 ≤ e' ∧ e' ≤ 1000000 ∧ powMid m r o' a' e') (fun _ e _ => (intOf e).toNat)
      case atStart => exact ⟨a, e, 1 % m, rfl, rfl, rfl, h3, h4, p1, p2, he0, he, hs.out⟩
      case round =>
        obtain ⟨a', e', o', rfl, rfl, rfl, a1, a2, o1, o2, e1, e2, hm⟩ := hrel
        have ⟨b1, b2⟩ := mul_bd h2 a1 a2 a1 a2
        have ⟨c1, c2⟩ := mul_bd h2 o1 o2 a1 a2
        have ⟨d1, d2⟩ := mod_bd (x := a' * a') h1
        have ⟨f1, f2⟩ := mod_bd (x := o' * a') h1
        by_cases hpos : 0 < e'
        · by_cases ho : e' % 2 = 1
          · have G2 := Lib.hid (powMid_odd hm hpos ho)
            clear hm hs
            go_wp2
            go_round
            case rel => exact ⟨_, _, _, rfl, rfl, rfl, d1, d2, f1, f2, by omega, by omega, G2.out⟩
            case measure => simp [intOf]; omega
          · have G2 := Lib.hid (powMid_even hm hpos ho)
            clear hm hs
            have ho' : (e' % 2 == 1) = false := by simpa using ho
            go_wp2
            go_round
            case rel => exact ⟨_, _, _, rfl, rfl, rfl, d1, d2, o1, o2, by omega, by omega, G2.out⟩
            case measure => simp [intOf]; omega
        · have G2 := Lib.hid (powMid_end hm (by omega))
          clear hm hs
          go_wp2
          go_ret2
          exact ⟨ret_i64_2 (by rw [G.out, G2.out]) (by rw [G.out]), rfl⟩
theorem s_PowerMod (a e m : Int) (w : World) :
    Calls Try.prog 27 #[.int .i64 a, .int .i64 e, .int .i64 m] w fun en w' => en = .returned (.tuple #[.int .i64 (powOut a e m).1, .int .i64 (powOut a e m).2]) ∧ w = w' := by
  cases hr : resB a m
  · have G : Hid (powOut a e m = (0, 2)) := Lib.hid (by simp [powOut, hr])
    go_enter Try.func27, Try.ntmps27
    go_wp2_with (first | (go_at_call 43; refine (s_residue _ _ _).mono ?_; rintro e w' ⟨rfl, rfl⟩) | (go_at_call 39; refine (s_in _ _ _ _).mono ?_; rintro e w' ⟨rfl, rfl⟩))
    go_ret2
    exact ⟨ret_i64_2 (by rw [G.out]) (by rw [G.out]), rfl⟩
  · cases hE : inB e 0 1000000
    · have G : Hid (powOut a e m = (0, 2)) := Lib.hid (by simp [powOut, hE])
      go_enter Try.func27, Try.ntmps27
      go_wp2_with (first | (go_at_call 43; refine (s_residue _ _ _).mono ?_; rintro e w' ⟨rfl, rfl⟩) | (go_at_call 39; refine (s_in _ _ _ _).mono ?_; rintro e w' ⟨rfl, rfl⟩))
      go_ret2
      exact ⟨ret_i64_2 (by rw [G.out]) (by rw [G.out]), rfl⟩
    · have G : Hid (powOut a e m = (powTo m 20 (1 % m) a e, 0)) := Lib.hid (by simp [powOut, hr, hE])
      obtain ⟨he0, he⟩ := inB_iff.1 hE
      have HR := Lib.hid hr
      go_enter Try.func27, Try.ntmps27
      go_wp2_with (first | (go_at_call 43; refine (s_residue _ _ _).mono ?_; rintro e w' ⟨rfl, rfl⟩) | (go_at_call 39; refine (s_in _ _ _ _).mono ?_; rintro e w' ⟨rfl, rfl⟩) | (go_at_call 46; refine (s_l02Power _ _ _ HR.out he0 he _).mono ?_; rintro e w' ⟨rfl, rfl⟩))
      go_ret2
      exact ⟨ret_i64_2 (by rw [G.out]) (by rw [G.out]), rfl⟩
theorem l_PowerMod (a e m : Int) (w : World) :
    Calls Try.prog 10 #[.int .i64 a, .int .i64 e, .int .i64 m] w fun e w' => e = .returned (.bool true) ∧ Ext w w' := by
  go_enter Try.func10, Try.ntmps10
  go_wp2_with (first | (go_at_call 27; refine (s_PowerMod _ _ _ _).mono ?_; rintro e w1 ⟨rfl, rfl⟩) | (go_at_call 28; refine (i_PowerMod _ _ _ _).mono ?_; rintro e w2 ⟨rfl, rfl⟩))
  go_ret
  exact ⟨rfl, Ext.refl _⟩
end Go.Proofs.Ytfdlhiohbhpocaa
