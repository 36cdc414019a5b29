/- MeetSets, MinusSets, UnionSets: the walks of the program and of the reference, and the laws. No condition. -/
import Derived.Test.YtloacmfafccofaaSetMath
import Derived.Test.YtloacmfafccofaaClone
import Derived.Laws.AppendOwnNone
namespace Go.Proofs.Ytloacmfafccofaa
open Go.RowKit

def notIn (xs : List Int) (x : Int) (k : Nat) : Prop := ∀ i (h : i < xs.length), i < k → ¬ xs[i] = x
theorem notIn_end {xs : List Int} {x : Int} (h : notIn xs x xs.length) : hasB xs x = false := by
  rw [hasB, decide_eq_false_iff_not]
  intro hm
  obtain ⟨i, hi, he⟩ := List.getElem_of_mem hm
  exact h i hi hi he
theorem hasB_hit {xs : List Int} {x : Int} {k : Nat} (h : k < xs.length) (he : xs[k] = x) : hasB xs x = true := by
  rw [hasB, decide_eq_true_eq, ← he]; exact List.getElem_mem h
theorem notIn_next {xs : List Int} {x : Int} {k : Nat} (h : notIn xs x k) (hk : k < xs.length) (he : ¬ xs[k] = x) : notIn xs x (k + 1) := by
  intro i hi h1
  by_cases h2 : i = k
  · subst h2; exact he
  · exact h i hi (by omega)

theorem s_l00Has (v : Value) (xs : List Int) (x : Int) (w : World) (h : Rd w v xs) : Calls Try.prog 72 #[v, .int .i64 x] w fun e w' => (e = .returned (.bool (hasB xs x)) ∧ w = w') := by
  obtain ⟨a, cap, rfl, hc, hm, hr⟩ := h
  obtain ⟨N, HN⟩ : ∃ N, Hid (N = xs.length) := ⟨_, Lib.hid rfl⟩
  have HC : Hid (0 < N → ∃ b o, a = some ⟨b, o, none⟩ ∧ ∀ i (h : i < xs.length), w.cell? ⟨b, o + i, none⟩ = some (.int .i64 xs[i])) := Lib.hid (fun hk => by
    obtain ⟨b, o, h1, h3, h2⟩ := hr (by rw [← HN.out]; exact hk)
    exact ⟨b, o, h1, h2⟩)
  clear hr
  rw [← HN.out] at hc ⊢
  go_enter Try.func72, Try.ntmps72
  go_wp2
  go_loop [5] (fun i => ∃ k : Nat, k ≤ N ∧ i = .int .i64 k ∧ Hid (notIn xs x k)) (fun i => N - (intOf i).toNat)
  case atStart => exact ⟨0, by omega, rfl, Lib.hid (fun i hi h => by omega)⟩
  case round =>
    obtain ⟨k, hk, rfl, hmid⟩ := hrel
    by_cases hlt : k < N
    · have hlt' : k < xs.length := by rw [← HN.out]; exact hlt
      obtain ⟨b, o, rfl, hall⟩ := HC.out (by omega)
      have hx := hall k hlt'
      obtain ⟨z, HZ⟩ : ∃ z, Hid (z = xs[k]) := ⟨_, Lib.hid rfl⟩
      rw [← HZ.out] at hx
      clear hall
      by_cases he : z = x
      · have G := Lib.hid (hasB_hit hlt' (HZ.out.symm.trans he))
        have heq : (z == x) = true := by simp [he]
        clear he
        go_wp2
        go_ret
        exact ⟨ret_bool G.out.symm, rfl⟩
      · have G := Lib.hid (notIn_next hmid.out hlt' (by rw [← HZ.out]; exact he))
        have heq : (z == x) = false := by rw [beq_eq_false_iff_ne]; first | exact he | exact fun h => he h.symm
        clear he hmid
        go_wp2
        exact ⟨⟨k + 1, by omega, by go_num, G⟩, by simp only [intOf]; omega⟩
    · have G : Hid (hasB xs x = false) := Lib.hid (notIn_end (by have := hmid.out; rw [show k = xs.length from by rw [← HN.out]; omega] at this; exact this))
      clear hmid
      go_wp2
      go_ret
      exact ⟨ret_bool G.out.symm, rfl⟩
end Go.Proofs.Ytloacmfafccofaa
