/- RankSubset: the walks of the program and of the reference, and the law. No condition. -/
import Derived.Test.YtnibjljamogbeaaRankMath
import Derived.Test.YtnibjljamogbeaaSlices
import Derived.Test.YtnibjljamogbeaaSize
namespace Go.Proofs.Ytnibjljamogbeaa
open Go.RowKit

set_option maxHeartbeats 400000 in
theorem i_RankSubset (n : Int) (v : Value) (xs : List Int) (w : World) (h : Rd w v xs) :
    Calls Try.prog 41 #[.int .i64 n, v] w fun e w' => e = .returned (.tuple #[.int .i64 (rankOut n xs), .int .i64 (rankCode n xs)]) ∧ w = w' := by
  have HRD := Lib.hid h
  cases hv : validB xs n
  · have G : Hid (rankOut n xs = 0) := Lib.hid (by simp [rankOut, hv])
    have G2 : Hid (rankCode n xs = 1) := Lib.hid (by simp [rankCode, hv])
    clear h
    go_enter Try.func41, Try.ntmps41
    go_wp2_with (go_at_call 68; refine (i_ValidSet _ xs _ _ HRD.out).mono ?_; rintro e w1 ⟨rfl, rfl⟩)
    go_ret2
    exact ⟨ret_i64_2 (by rw [G.out]) (by rw [G2.out]), rfl⟩
  · have G : Hid (rankOut n xs = rankOf n xs) := Lib.hid (by simp [rankOut, hv])
    have G2 : Hid (rankCode n xs = 0) := Lib.hid (by simp [rankCode, hv])
    obtain ⟨hn0, hn1, ns, hxs, hup⟩ := valid_nat hv
    obtain ⟨N, rfl⟩ := Int.eq_ofNat_of_zero_le hn0
    rw [Int.toNat_natCast] at hup
    have G3 : Hid (rankOf N xs = (rk N 0 ns : Nat)) := Lib.hid (by rw [rankOf, hxs, map_toNat]; rfl)
    have HUP := Lib.hid hup
    have hlen : ns.length ≤ 32 := by have := hup.len (by omega); omega
    obtain ⟨K, HK⟩ : ∃ K, Hid (K = ns.length) := ⟨_, Lib.hid rfl⟩
    have HKX : Hid (xs.length = K) := Lib.hid (by rw [HK.out, hxs, List.length_map])
    obtain ⟨a, cap, rfl, hc, hm, hr⟩ := h
    have HC : Hid (0 < K → ∃ b o, a = some ⟨b, o, none⟩ ∧ ∀ i (h : i < ns.length), w.cell? ⟨b, o + i, none⟩ = some (.int .i64 (ns[i] : Nat))) := Lib.hid (fun hk => by
      obtain ⟨b, o, h1, _, h2⟩ := hr (by rw [HKX.out]; exact hk)
      refine ⟨b, o, h1, fun i hi => ?_⟩
      rw [h2 i (by rw [HKX.out, HK.out]; exact hi)]
      simp [hxs])
    rw [← HK.out] at hlen
    have HS := Lib.hid (rkMid_start hup)
    clear hr hxs hup
    rw [HKX.out] at hc
    go_enter Try.func41, Try.ntmps41
    go_wp2_with fail
    refine (i_ValidSet _ xs _ _ HRD.out).mono ?_
    rintro e w1 ⟨rfl, rfl⟩
    rw [HKX.out]
    go_wp2
    clear hv
    go_loop [6, 7, 17] (fun q f i => ∃ (k L : Nat) (R : Int), k ≤ K ∧ i = .int .i64 k ∧ f = .int .i64 (L : Nat) ∧ q = .int .i64 R ∧ Hid (rkMid N ns k L R)) (fun _ _ i => K - (intOf i).toNat)
    case atStart => exact ⟨0, 0, 0, by omega, rfl, rfl, rfl, HS⟩
    case round =>
      obtain ⟨k, L, R, hk, rfl, rfl, rfl, hmid⟩ := hrel
      by_cases hlt : k < K
      · have hlt' : k < ns.length := by rw [← HK.out]; exact hlt
        obtain ⟨b, o, rfl, hall⟩ := HC.out (by omega)
        have hx := hall k hlt'
        obtain ⟨x, HX⟩ : ∃ x, Hid (x = ns[k]) := ⟨_, Lib.hid rfl⟩
        rw [← HX.out] at hx
        have ⟨hl1, hl2⟩ := rkMid_le hmid.out hlt'
        rw [← HX.out] at hl1 hl2
        clear hall
        go_wp2
        go_loop [6, 10] (fun q y => ∃ (j : Nat) (R' : Int), L + j ≤ x ∧ y = .int .i64 ((L : Int) + (j : Int)) ∧ q = .int .i64 R' ∧ Hid (rkIn N ns k L R j R')) (fun _ y => (x - intOf y).toNat)
        case atStart => exact ⟨0, R, by omega, by go_num, rfl, Lib.hid (by simp [rkIn, bsum])⟩
        case round =>
          obtain ⟨j, R', hj, rfl, rfl, hin⟩ := hrel
          have ⟨r1, r2⟩ := rkIn_bd hin.out hmid.out HUP.out (by omega) hlt' (by rw [← HX.out]; exact hj)
          by_cases hlt2 : L + j < x
          · have HCH : Hid (choose ((N : Int) - 1 - ((L : Int) + (j : Int))) ((K : Int) - 1 - (k : Int)) = (binom (N - 1 - (L + j)) (ns.length - 1 - k) : Nat)) := Lib.hid (choose_nat _ _ (by omega) (by rw [← HK.out]; omega) (by omega))
            have HNX := Lib.hid (rkIn_next hin.out)
            have ⟨s1, s2⟩ := rkIn_bd HNX.out hmid.out HUP.out (by omega) hlt' (by rw [← HX.out]; omega)
            have hltI : (L : Int) + (j : Int) < (x : Int) := by omega
            generalize binom (N - 1 - (L + j)) (ns.length - 1 - k) = c at *
            go_wp2_with fail
            refine (i_size _ _ _ _ (by omega)).mono ?_
            rintro e w2 ⟨rfl, rfl⟩
            go_wp2_with fail
            refine (i_Choose _ _ _).mono ?_
            rintro e w3 ⟨rfl, rfl⟩
            rw [HCH.out]
            go_wp2
            exact ⟨⟨j + 1, R' + c, by omega, by go_num, rfl, HNX⟩, by simp only [intOf]; omega⟩
          · have hge : (x : Int) ≤ (L : Int) + (j : Int) := by omega
            have HNX := Lib.hid (rkMid_next hmid.out hlt' (by rw [← HX.out]; omega) hin.out)
            rw [← HX.out] at HNX
            go_wp2
            exact ⟨⟨k + 1, x + 1, R', by omega, by go_num, by go_num, rfl, HNX⟩, by simp only [intOf]; omega⟩
      · obtain rfl : k = K := by omega
        have HE : Hid (R = (rk N 0 ns : Nat)) := Lib.hid (by have := hmid.out; rw [HK.out] at this; exact rkMid_end this)
        go_wp2
        go_ret2
        exact ⟨ret_i64_2 (by rw [G.out, G3.out, HE.out]) (by rw [G2.out]), rfl⟩
set_option maxHeartbeats 400000 in
theorem s_l01Rank (n : Int) (v : Value) (xs : List Int) (w : World) (hv : validB xs n = true) (h : Rd w v xs) :
    Calls Try.prog 67 #[.int .i64 n, v] w fun e w' => e = .returned (.int .i64 (rankOf n xs)) ∧ w = w' := by
  obtain ⟨hn0, hn1, ns, hxs, hup⟩ := valid_nat hv
  obtain ⟨N, rfl⟩ := Int.eq_ofNat_of_zero_le hn0
  rw [Int.toNat_natCast] at hup
  have G3 : Hid (rankOf N xs = (rk N 0 ns : Nat)) := Lib.hid (by rw [rankOf, hxs, map_toNat]; rfl)
  have HUP := Lib.hid hup
  have hlen : ns.length ≤ 32 := by have := hup.len (by omega); omega
  obtain ⟨K, HK⟩ : ∃ K, Hid (K = ns.length) := ⟨_, Lib.hid rfl⟩
  have HKX : Hid (xs.length = K) := Lib.hid (by rw [HK.out, hxs, List.length_map])
  obtain ⟨a, cap, rfl, hc, hm, hr⟩ := h
  have HC : Hid (0 < K → ∃ b o, a = some ⟨b, o, none⟩ ∧ ∀ i (h : i < ns.length), w.cell? ⟨b, o + i, none⟩ = some (.int .i64 (ns[i] : Nat))) := Lib.hid (fun hk => by
    obtain ⟨b, o, h1, _, h2⟩ := hr (by rw [HKX.out]; exact hk)
    refine ⟨b, o, h1, fun i hi => ?_⟩
    rw [h2 i (by rw [HKX.out, HK.out]; exact hi)]
    simp [hxs])
  rw [← HK.out] at hlen
  have HS := Lib.hid (rkMid_start hup)
  clear hr hxs hup hv
  rw [HKX.out] at hc ⊢
  go_enter Try.func67, Try.ntmps67
  go_wp2
  go_loop [5, 6, 8] (fun q f i => ∃ (k L : Nat) (R : Int), k ≤ K ∧ i = .int .i64 k ∧ f = .int .i64 (L : Nat) ∧ q = .int .i64 R ∧ Hid (rkMid N ns k L R)) (fun _ _ i => K - (intOf i).toNat)
  case atStart => exact ⟨0, 0, 0, by omega, rfl, rfl, rfl, HS⟩
  case round =>
    obtain ⟨k, L, R, hk, rfl, rfl, rfl, hmid⟩ := hrel
    by_cases hlt : k < K
    · have hlt' : k < ns.length := by rw [← HK.out]; exact hlt
      obtain ⟨b, o, rfl, hall⟩ := HC.out (by omega)
      have hx := hall k hlt'
      obtain ⟨x, HX⟩ : ∃ x, Hid (x = ns[k]) := ⟨_, Lib.hid rfl⟩
      rw [← HX.out] at hx
      have ⟨hl1, hl2⟩ := rkMid_le hmid.out hlt'
      rw [← HX.out] at hl1 hl2
      clear hall
      go_wp2
      go_loop [5, 9] (fun q y => ∃ (j : Nat) (R' : Int), L + j ≤ x ∧ y = .int .i64 ((L : Int) + (j : Int)) ∧ q = .int .i64 R' ∧ Hid (rkIn N ns k L R j R')) (fun _ y => (x - intOf y).toNat)
      case atStart => exact ⟨0, R, by omega, by go_num, rfl, Lib.hid (by simp [rkIn, bsum])⟩
      case round =>
        obtain ⟨j, R', hj, rfl, rfl, hin⟩ := hrel
        have ⟨r1, r2⟩ := rkIn_bd hin.out hmid.out HUP.out (by omega) hlt' (by rw [← HX.out]; exact hj)
        by_cases hlt2 : L + j < x
        · have HCH : Hid (choose ((N : Int) - 1 - ((L : Int) + (j : Int))) ((K : Int) - 1 - (k : Int)) = (binom (N - 1 - (L + j)) (ns.length - 1 - k) : Nat)) := Lib.hid (choose_nat _ _ (by omega) (by rw [← HK.out]; omega) (by omega))
          have HNX := Lib.hid (rkIn_next hin.out)
          have ⟨s1, s2⟩ := rkIn_bd HNX.out hmid.out HUP.out (by omega) hlt' (by rw [← HX.out]; omega)
          have hltI : (L : Int) + (j : Int) < (x : Int) := by omega
          generalize binom (N - 1 - (L + j)) (ns.length - 1 - k) = c at *
          go_wp2_with fail
          refine (s_Choose _ _ _).mono ?_
          rintro e w3 ⟨rfl, rfl⟩
          rw [HCH.out]
          go_wp2
          exact ⟨⟨j + 1, R' + c, by omega, by go_num, rfl, HNX⟩, by simp only [intOf]; omega⟩
        · have hge : (x : Int) ≤ (L : Int) + (j : Int) := by omega
          have HNX := Lib.hid (rkMid_next hmid.out hlt' (by rw [← HX.out]; omega) hin.out)
          rw [← HX.out] at HNX
          go_wp2
          exact ⟨⟨k + 1, x + 1, R', by omega, by go_num, by go_num, rfl, HNX⟩, by simp only [intOf]; omega⟩
    · obtain rfl : k = K := by omega
      have HE : Hid (R = (rk N 0 ns : Nat)) := Lib.hid (by have := hmid.out; rw [HK.out] at this; exact rkMid_end this)
      go_wp2
      go_ret
      exact ⟨ret_i64 (by rw [G3.out, HE.out]), rfl⟩
theorem s_RankSubset (n : Int) (v : Value) (xs : List Int) (w : World) (h : Rd w v xs) :
    Calls Try.prog 40 #[.int .i64 n, v] w fun e w' => e = .returned (.tuple #[.int .i64 (rankOut n xs), .int .i64 (rankCode n xs)]) ∧ Drawn w w' := by
  have HRD := Lib.hid h
  clear h
  cases hv : validB xs n
  · have G : Hid (rankOut n xs = 0) := Lib.hid (by simp [rankOut, hv])
    have G2 : Hid (rankCode n xs = 1) := Lib.hid (by simp [rankCode, hv])
    go_enter Try.func40, Try.ntmps40
    go_wp2_with (go_at_call 66; refine (s_ValidSet _ xs _ _ HRD.out).mono ?_; rintro e w1 ⟨rfl, hd⟩)
    go_ret2
    exact ⟨ret_i64_2 (by rw [G.out]) (by rw [G2.out]), hd⟩
  · have G : Hid (rankOut n xs = rankOf n xs) := Lib.hid (by simp [rankOut, hv])
    have G2 : Hid (rankCode n xs = 0) := Lib.hid (by simp [rankCode, hv])
    have HV := Lib.hid hv
    go_enter Try.func40, Try.ntmps40
    go_wp2_with (go_at_call 66; refine (s_ValidSet _ xs _ _ HRD.out).mono ?_; rintro e w1 ⟨rfl, hd⟩)
    refine (s_l01Rank _ _ xs _ HV.out (HRD.out.drawn hd)).mono ?_
    rintro e w2 ⟨rfl, rfl⟩
    go_wp2
    go_ret2
    exact ⟨ret_i64_2 (by rw [G.out]) (by rw [G2.out]), hd⟩
theorem l_RankSubset (w : World) (a0 : Int) (v1 : Value) (xs1 : List Int) (h1 : Rd w v1 xs1) :
    Calls Try.prog 12 #[.int .i64 a0, v1] w fun e w' => e = .returned (.bool true) ∧ Ext w w' := by
  have r1_0 := h1
  obtain ⟨ad1, cap1, rfl, hc1, hm1, _⟩ := h1
  by_cases hl1 : 1048576 < xs1.length
  · go_enter Try.func12, Try.ntmps12
    go_wp2
    go_ret
    exact ⟨rfl, Ext.refl _⟩
  have X0 : Ext w w := Ext.refl w
  go_enter Try.func12, Try.ntmps12
  go_wp2_with fail
  refine (l_toInt64S _ xs1 _ (by omega) r1_0).mono ?_
  rintro e w1 ⟨u_s1, rfl, s1_1, x1⟩
  have z1 := x1.size
  have X1 : Ext w w1 := X0.trans x1
  have r1_1 := r1_0.ext X1
  go_wp2_with fail
  refine (s_RankSubset a0 _ xs1 _ s1_1.rd ).mono ?_
  rintro e w2 ⟨rfl, d2⟩
  have x2 := d2.ext
  have z2 := x2.size
  have X2 : Ext w w2 := X1.trans x2
  have s1_2 := s1_1.ext x2
  have r1_2 := r1_0.ext X2
  go_wp2_with fail
  refine (l_toInt64S _ xs1 _ (by omega) r1_2).mono ?_
  rintro e w3 ⟨u_x1x, rfl, x1x_3, x3⟩
  have z3 := x3.size
  have X3 : Ext w w3 := X2.trans x3
  have s1_3 := s1_2.ext x3
  have r1_3 := r1_0.ext X3
  go_wp2_with fail
  refine (i_RankSubset a0 _ xs1 _ x1x_3.rd ).mono ?_
  rintro e w4 ⟨rfl, rfl⟩
  go_wp2_with fail
  refine (l_toInt64S _ xs1 _ (by omega) r1_3).mono ?_
  rintro e w4 ⟨u_t1, rfl, t1_4, x4⟩
  have z4 := x4.size
  have X4 : Ext w w4 := X3.trans x4
  have s1_4 := s1_3.ext x4
  have x1x_4 := x1x_3.ext x4
  have r1_4 := r1_0.ext X4
  go_wp2_with fail
  refine (l_eqInt64S_t _ _ xs1 _ x1x_4.rd t1_4.rd).mono ?_
  rintro e w5 ⟨rfl, d5⟩
  have x5 := d5.ext
  have z5 := x5.size
  have X5 : Ext w w5 := X4.trans x5
  have s1_5 := s1_4.ext x5
  have x1x_5 := x1x_4.ext x5
  have t1_5 := t1_4.ext x5
  have r1_5 := r1_0.ext X5
  go_wp2
  go_ret
  exact ⟨rfl, X5⟩

end Go.Proofs.Ytnibjljamogbeaa
