/- The factorial, as the program and the reference compute it. No condition. -/
import Derived.Test.YtloacmfafccofaaInts
namespace Go.Proofs.Ytloacmfafccofaa
open Go.RowKit

def fct : Nat → Nat
  | 0 => 1
  | k + 1 => fct k * (k + 1)
def fctI (n : Int) : Int := (fct n.toNat : Nat)
theorem fct_pos : ∀ k, 1 ≤ fct k
  | 0 => by simp [fct]
  | k + 1 => by have := fct_pos k; rw [fct]; exact Nat.mul_pos this (by omega)
theorem fct_mono : ∀ {j k : Nat}, j ≤ k → fct j ≤ fct k
  | j, 0, h => by rw [show j = 0 from by omega]; exact Nat.le_refl _
  | j, k + 1, h => by
    by_cases e : j = k + 1
    · subst e; exact Nat.le_refl _
    · refine Nat.le_trans (fct_mono (show j ≤ k by omega)) ?_
      rw [fct]; exact Nat.le_mul_of_pos_right _ (by omega)
theorem fct_12 : fct 12 = 479001600 := by rfl
theorem fctI_bd {n : Int} (h : n ≤ 12) : 1 ≤ fctI n ∧ fctI n ≤ 479001600 := by
  have h1 := fct_pos n.toNat
  have h2 := fct_mono (show n.toNat ≤ 12 by omega)
  rw [fct_12] at h2
  unfold fctI; omega
def fctMid (n F J : Int) : Prop := ∃ k : Nat, 1 ≤ k ∧ J = (k : Int) + 1 ∧ F = (fct k : Nat) ∧ (k ≤ 1 ∨ (k : Int) ≤ n)
theorem fctMid_start (n : Int) : fctMid n 1 2 := ⟨1, by omega, by omega, by rfl, by omega⟩
theorem fctMid_next {n F J : Int} (h : fctMid n F J) (hJ : J ≤ n) : fctMid n (F * J) (J + 1) := by
  obtain ⟨k, h1, h2, h3, h4⟩ := h
  refine ⟨k + 1, by omega, by omega, ?_, by omega⟩
  rw [h2, h3, fct]
  push_cast
  rfl
theorem fctMid_bd {n F J : Int} (h : fctMid n F J) (hn : n ≤ 12) : 1 ≤ F ∧ F ≤ 479001600 ∧ 2 ≤ J ∧ J ≤ 13 := by
  obtain ⟨k, h1, h2, h3, h4⟩ := h
  have h5 := fct_pos k
  have h6 := fct_mono (show k ≤ 12 by omega)
  rw [fct_12] at h6
  omega
theorem fctMid_end {n F J : Int} (h : fctMid n F J) (hJ : ¬ J ≤ n) : F = fctI n := by
  obtain ⟨k, h1, h2, h3, h4⟩ := h
  rw [h3, fctI]
  by_cases e : (k : Int) ≤ n
  · rw [show n.toNat = k from by omega]
  · have hk : k = 1 := by omega
    subst hk
    rcases (show n.toNat = 0 ∨ n.toNat = 1 by omega) with e | e <;> rw [e] <;> rfl
theorem i_fct (n : Int) (w : World) (hn : n ≤ 12) : Calls Try.prog 50 #[.int .i64 n] w fun e w' => e = .returned (.int .i64 (fctI n)) ∧ w = w' := by
  have HS := Lib.hid (fctMid_start n)
  go_enter Try.func50, Try.ntmps50
  go_wp2
  go_loop [3, 4] (fun f i => ∃ F J : Int, f = .int .i64 F ∧ i = .int .i64 J ∧ Hid (fctMid n F J)) (fun _ i => (13 - intOf i).toNat)
  case atStart => exact ⟨1, 2, rfl, rfl, HS⟩
  case round =>
    obtain ⟨F, J, rfl, rfl, hmid⟩ := hrel
    obtain ⟨b1, b2, b3, b4⟩ := fctMid_bd hmid.out hn
    by_cases hlt : J ≤ n
    · have HN := Lib.hid (fctMid_next hmid.out hlt)
      obtain ⟨c1, c2, c3, c4⟩ := fctMid_bd HN.out hn
      clear hmid
      go_wp2
      exact ⟨⟨F * J, J + 1, rfl, rfl, HN⟩, by simp only [intOf]; omega⟩
    · have HE := Lib.hid (fctMid_end hmid.out hlt)
      clear hmid
      go_wp2
      go_ret
      exact ⟨ret_i64 HE.out, rfl⟩
theorem s_fct (n : Int) (w : World) (hn : n ≤ 12) : Calls Try.prog 49 #[.int .i64 n] w fun e w' => e = .returned (.int .i64 (fctI n)) ∧ w = w' := by
  have HS := Lib.hid (fctMid_start n)
  go_enter Try.func49, Try.ntmps49
  go_wp2
  go_loop [3, 4] (fun f i => ∃ F J : Int, f = .int .i64 F ∧ i = .int .i64 J ∧ Hid (fctMid n F J)) (fun _ i => (13 - intOf i).toNat)
  case atStart => exact ⟨1, 2, rfl, rfl, HS⟩
  case round =>
    obtain ⟨F, J, rfl, rfl, hmid⟩ := hrel
    obtain ⟨b1, b2, b3, b4⟩ := fctMid_bd hmid.out hn
    by_cases hlt : J ≤ n
    · have HN := Lib.hid (fctMid_next hmid.out hlt)
      obtain ⟨c1, c2, c3, c4⟩ := fctMid_bd HN.out hn
      clear hmid
      go_wp2
      exact ⟨⟨F * J, J + 1, rfl, rfl, HN⟩, by simp only [intOf]; omega⟩
    · have HE := Lib.hid (fctMid_end hmid.out hlt)
      clear hmid
      go_wp2
      go_ret
      exact ⟨ret_i64 HE.out, rfl⟩
end Go.Proofs.Ytloacmfafccofaa
