/- PrimePower: the walks of the program and of the reference, and the law. No condition. -/
import Derived.Test.YtafaecpmffmfgaaFactors
import Derived.Test.YtafaecpmffmfgaaSize
namespace Go.Proofs.Ytafaecpmffmfgaa
open Go.RowKit

def ppOf : List Int → Int × Int
  | [] => (0, 0)
  | p :: r => if r.all (· == p) then (p, (r.length : Int) + 1) else (0, 0)
def ppOut (n : Int) : Int × Int := ppOf (facs n)
theorem facs_sorted (n : Int) : (facs n).Pairwise (· ≤ ·) := by
  unfold facs
  by_cases h : 1 ≤ n ∧ n ≤ 1000000
  · rw [if_pos h]; exact (fac_ge _ _ _ _ (facs_fit h) (clean_start n)).2
  · rw [if_neg h]; exact List.Pairwise.nil
theorem facs_two (n : Int) : ∀ x ∈ facs n, 2 ≤ x := by
  unfold facs
  by_cases h : 1 ≤ n ∧ n ≤ 1000000
  · rw [if_pos h]; exact (fac_ge _ _ _ _ (facs_fit h) (clean_start n)).1
  · rw [if_neg h]; simp
theorem pp_hit {l : List Int} (h : 0 < l.length) (ha : ∀ i (hi : i < l.length), l[i] = l[0]) : ppOf l = (l[0], (l.length : Int)) := by
  match l, h with
  | p :: r, _ =>
    have : r.all (· == p) = true := by
      rw [List.all_eq_true]
      intro x hx
      obtain ⟨i, hi, rfl⟩ := List.getElem_of_mem hx
      have := ha (i + 1) (by simpa using hi)
      simpa using this
    simp [ppOf, this]
theorem pp_miss {l : List Int} {i : Nat} (hi : i < l.length) (ha : ¬ l[i] = l[0]'(by omega)) : ppOf l = (0, 0) := by
  match l, hi with
  | p :: r, hi =>
    have : r.all (· == p) = false := by
      cases i with
      | zero => exact absurd rfl ha
      | succ i =>
        rw [List.all_eq_false]
        refine ⟨r[i]'(by simpa using hi), List.getElem_mem _, ?_⟩
        simpa using ha
    simp [ppOf, this]
theorem pp_last {l : List Int} (hs : l.Pairwise (· ≤ ·)) (h : 0 < l.length) (he : l[0] = l[l.length - 1]) : ∀ i (hi : i < l.length), l[i] = l[0] := by
  intro i hi
  have h1 : l[0] ≤ l[i] := by
    rcases Nat.eq_zero_or_pos i with rfl | h0
    · exact Int.le_refl _
    · exact (List.pairwise_iff_getElem.1 hs) 0 i h hi h0
  have h2 : l[i] ≤ l[l.length - 1] := by
    by_cases h0 : i = l.length - 1
    · subst h0; exact Int.le_refl _
    · exact (List.pairwise_iff_getElem.1 hs) i (l.length - 1) hi (by omega) (by omega)
  omega

theorem i_PrimePower (n : Int) (w : World) :
    Calls Try.prog 60 #[.int .i64 n] w fun e w' => e = .returned (.tuple #[.int .i64 (ppOut n).1, .int .i64 (ppOut n).2]) ∧ Ext w w' := by
  obtain ⟨l, HL⟩ : ∃ l, Hid (l = facs n) := ⟨_, Lib.hid rfl⟩
  have HO : Hid (ppOut n = ppOf l) := Lib.hid (by rw [HL.out]; rfl)
  have hlen : l.length ≤ 2004001 := by rw [HL.out]; exact facs_len_le n
  go_enter Try.func60, Try.ntmps60
  go_wp2_with fail
  refine (i_FactorsOf _ _).mono ?_
  rintro e w1 ⟨v, rfl, hown, hext⟩
  rw [← HL.out] at hown
  have HRD := Lib.hid hown.rd
  obtain ⟨a, cap, hv, hc, hm, hr⟩ := hown.rd
  have HR := Lib.hid hr
  clear hr hown
  subst hv
  obtain ⟨N, HN⟩ : ∃ N, Hid (N = l.length) := ⟨_, Lib.hid rfl⟩
  rw [← HN.out] at hc hlen HRD ⊢
  go_wp2
  go_loop [11] (fun i => ∃ k : Nat, k ≤ N ∧ i = .int .i64 k ∧ Hid (∀ i (hi : i < l.length), i < k → l[i] = l[0]'(by omega))) (fun i => N - (intOf i).toNat)
  case atStart => exact ⟨0, by omega, rfl, Lib.hid (fun i hi h => by omega)⟩
  case round =>
    obtain ⟨k, hk, rfl, hm2⟩ := hrel
    by_cases hlt : k < N
    · have hlt' : k < l.length := by rw [← HN.out]; exact hlt
      obtain ⟨b, o, rfl, hb, hall⟩ := HR.out (by omega)
      have hx := hall k hlt'
      have hy := hall 0 (by omega)
      rw [Nat.add_zero] at hy
      by_cases he : l[k] = l[0]
      · have G : Hid (∀ i (hi : i < l.length), i < k + 1 → l[i] = l[0]'(by omega)) := Lib.hid (fun i hi h => by
          by_cases h9 : i = k
          · subst h9; exact he
          · exact hm2.out i hi (by omega))
        rw [he] at hx
        obtain ⟨x, HX⟩ : ∃ x, Hid (x = l[0]) := ⟨_, Lib.hid rfl⟩
        rw [← HX.out] at hx hy
        have hne : (x != x) = false := by simp
        clear hall hm2 he
        go_wp2
        go_round
        case rel => exact ⟨k + 1, by omega, by go_num, G⟩
        case measure => simp only [intOf]; omega
      · have G : Hid (ppOf l = (0, 0)) := Lib.hid (pp_miss hlt' he)
        have hne : (l[k] != l[0]) = true := by simpa using he
        generalize l[k] = x at *
        generalize l[0] = y at *
        clear hall hm2 he
        go_wp2
        go_ret2
        exact ⟨ret_i64_2 (by rw [HO.out, G.out]) (by rw [HO.out, G.out]), hext⟩
    · obtain rfl : k = N := by omega
      by_cases h0 : k = 0
      · have G : Hid (ppOf l = (0, 0)) := Lib.hid (by
          have : l = [] := List.eq_nil_of_length_eq_zero (by have := HN.out; omega)
          rw [this]; rfl)
        subst h0
        go_wp2
        go_ret2
        exact ⟨ret_i64_2 (by rw [HO.out, G.out]) (by rw [HO.out, G.out]), hext⟩
      · have hpos : 0 < l.length := by rw [← HN.out]; omega
        have G : Hid (ppOf l = (l[0], (k : Int))) := Lib.hid (by rw [pp_hit hpos (fun i hi => hm2.out i hi (by have := HN.out; omega)), HN.out])
        obtain ⟨b, o, rfl, hb, hall⟩ := HR.out (by omega)
        have hy := hall 0 (by omega)
        rw [Nat.add_zero] at hy
        have h0' : ((k : Int) == 0) = false := by rw [beq_eq_false_iff_ne]; omega
        have hkp : (0 : Int) < (k : Int) := by omega
        generalize l[0] = y at *
        have HRD2 : Hid (∀ n2, Calls Try.prog 55 #[.slice (some ⟨b, o, none⟩) k cap] (w1.drewN n2) fun e w' => e = .returned (.int .i64 (k : Int)) ∧ w' = w1.drewN n2) := Lib.hid (fun n2 => i_size _ _ _ _ (by omega))
        clear hall hm2
        go_wp2
        go_quiet ((go_at_call 55; exact Calls.quiet_of_same (HRD2.out _)))
        go_wp2
        go_ret2
        exact ⟨ret_i64_2 (by rw [HO.out, G.out]) (by rw [HO.out, G.out]), hext.drewN _⟩

end Go.Proofs.Ytafaecpmffmfgaa
