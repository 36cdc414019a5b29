/- InverseMod: the program's and the reference's walk, and the law. No condition. -/
import Derived.Test.YtfdlhiohbhpocaaInts
import Derived.Test.YtfdlhiohbhpocaaMem
namespace Go.Proofs.Ytfdlhiohbhpocaa
open Go.RowKit

def invP (a m : Int) : Int → Bool := fun x => a * x % m == 1 % m
def invOut (a m : Int) : Int × Int :=
  if resB a m then (match findUp (invP a m) m.toNat 0 with | some x => (x, 0) | none => (0, 3)) else (0, 2)

theorem inv_hit {a m x : Int} (hr : resB a m = true) (hx : x < m) (h : upMid (invP a m) m x) (hf : a * x % m = 1 % m) : invOut a m = (x, 0) := by
  rw [invOut, if_pos hr, upMid_hit hx h (by simpa [invP] using hf)]
theorem inv_next {a m x : Int} (hx : x < m) (h : upMid (invP a m) m x) (hf : ¬ (a * x % m = 1 % m)) : upMid (invP a m) m (x + 1) :=
  upMid_next hx h (by simpa [invP] using hf)
theorem inv_end {a m : Int} (hr : resB a m = true) (h : upMid (invP a m) m m) : invOut a m = (0, 3) := by
  rw [invOut, if_pos hr, upMid_end h]

theorem i_InverseMod (a m : Int) (w : World) :
    Calls Try.prog 22 #[.int .i64 a, .int .i64 m] w fun e w' => e = .returned (.tuple #[.int .i64 (invOut a m).1, .int .i64 (invOut a m).2]) ∧ Drawn w w' := by
  cases hr : resB a m
  · have G : Hid (invOut a m = (0, 2)) := Lib.hid (by simp [invOut, hr])
    go_enter Try.func22, Try.ntmps22
    go_wp2_with (go_at_call 44; refine (i_residue _ _ _).mono ?_; rintro e w' ⟨rfl, rfl⟩)
    go_ret2
    exact ⟨ret_i64_2 (by rw [G.out]) (by rw [G.out]), Drawn.refl _⟩
  · have ⟨h1, h2, h3, h4⟩ := resB_t hr
    go_enter Try.func22, Try.ntmps22
    go_wp2_with (go_at_call 44; refine (i_residue _ _ _).mono ?_; rintro e w' ⟨rfl, rfl⟩)
    go_loopw [6] (fun x wr => ∃ k : Int, 0 ≤ k ∧ k ≤ m ∧ x = .int .i64 k ∧ upMid (invP a m) m k ∧ Drawn w wr) (fun x _ => (m - intOf x).toNat)
    case atStart => exact ⟨0, by omega, by omega, rfl, upMid_start _ _, Drawn.refl _⟩
    case round =>
      obtain ⟨k, k1, k2, rfl, hmid, hd⟩ := hrel
      by_cases hlt : k < m
      · have hb := mulmod_bd h3 h4 k1 hlt h2
        by_cases hf : a * k % m = 1 % m
        · have G := Lib.hid (inv_hit hr hlt hmid hf)
          go_wp2
          go_quiet (fail)
          go_wp2
          go_ret2
          exact ⟨ret_i64_2 (by rw [G.out]) (by rw [G.out]), hd.drewN _⟩
        · have G := Lib.hid (inv_next hlt hmid hf)
          have hf' : (a * k % m == 1 % m) = false := by simpa using hf
          go_wp2
          go_quiet (fail)
          go_wp2
          exact ⟨⟨k + 1, by omega, by omega, rfl, G.out, hd.drewN _⟩, by simp [intOf]; omega⟩
      · obtain rfl : k = m := by omega
        have G := Lib.hid (inv_end hr hmid)
        go_wp2
        go_ret2
        exact ⟨ret_i64_2 (by rw [G.out]) (by rw [G.out]), hd⟩
theorem s_InverseMod (a m : Int) (w : World) :
    Calls Try.prog 21 #[.int .i64 a, .int .i64 m] w fun e w' => e = .returned (.tuple #[.int .i64 (invOut a m).1, .int .i64 (invOut a m).2]) ∧ Drawn w w' := by
  cases hr : resB a m
  · have G : Hid (invOut a m = (0, 2)) := Lib.hid (by simp [invOut, hr])
    go_enter Try.func21, Try.ntmps21
    go_wp2_with (go_at_call 43; refine (s_residue _ _ _).mono ?_; rintro e w' ⟨rfl, rfl⟩)
    go_ret2
    exact ⟨ret_i64_2 (by rw [G.out]) (by rw [G.out]), Drawn.refl _⟩
  · have ⟨h1, h2, h3, h4⟩ := resB_t hr
    go_enter Try.func21, Try.ntmps21
    go_wp2_with (go_at_call 43; refine (s_residue _ _ _).mono ?_; rintro e w' ⟨rfl, rfl⟩)
    go_loopw [6] (fun x wr => ∃ k : Int, 0 ≤ k ∧ k ≤ m ∧ x = .int .i64 k ∧ upMid (invP a m) m k ∧ Drawn w wr) (fun x _ => (m - intOf x).toNat)
    case atStart => exact ⟨0, by omega, by omega, rfl, upMid_start _ _, Drawn.refl _⟩
    case round =>
      obtain ⟨k, k1, k2, rfl, hmid, hd⟩ := hrel
      by_cases hlt : k < m
      · have hb := mulmod_bd h3 h4 k1 hlt h2
        by_cases hf : a * k % m = 1 % m
        · have G := Lib.hid (inv_hit hr hlt hmid hf)
          go_wp2
          go_quiet (fail)
          go_wp2
          go_ret2
          exact ⟨ret_i64_2 (by rw [G.out]) (by rw [G.out]), hd.drewN _⟩
        · have G := Lib.hid (inv_next hlt hmid hf)
          have hf' : (a * k % m == 1 % m) = false := by simpa using hf
          go_wp2
          go_quiet (fail)
          go_wp2
          exact ⟨⟨k + 1, by omega, by omega, rfl, G.out, hd.drewN _⟩, by simp [intOf]; omega⟩
      · obtain rfl : k = m := by omega
        have G := Lib.hid (inv_end hr hmid)
        go_wp2
        go_ret2
        exact ⟨ret_i64_2 (by rw [G.out]) (by rw [G.out]), hd⟩
theorem l_InverseMod (a m : Int) (w : World) :
    Calls Try.prog 7 #[.int .i64 a, .int .i64 m] w fun e w' => e = .returned (.bool true) ∧ Ext w w' := by
  go_enter Try.func7, Try.ntmps7
  go_wp2_with (first | (go_at_call 21; refine (s_InverseMod _ _ _).mono ?_; rintro e w1 ⟨rfl, hd1⟩) | (go_at_call 22; refine (i_InverseMod _ _ _).mono ?_; rintro e w2 ⟨rfl, hd2⟩))
  go_ret
  exact ⟨rfl, (hd1.trans hd2).ext⟩
end Go.Proofs.Ytfdlhiohbhpocaa
