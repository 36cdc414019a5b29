/- OrderOfPermutation: the walks of the program and of the reference, and the law. No condition. -/
import Derived.Test.YtloacmfafccofaaCycSign
namespace Go.Proofs.Ytloacmfafccofaa
open Go.RowKit

set_option maxHeartbeats 800000 in
theorem i_OrderOfPermutation (v : Value) (xs : List Int) (w : World) (h : Rd w v xs) (hn : xs.length ≤ 100000000) : Calls Try.prog 20 #[v] w fun e w' => e = .returned (.int .i64 (ordOut xs)) ∧ Ext w w' := by
  have HRD := Lib.hid h
  have _hn := hn
  obtain ⟨a, cap, rfl, hc, hm, _⟩ := h
  obtain ⟨N, HN⟩ : ∃ N, Hid (N = xs.length) := ⟨_, Lib.hid rfl⟩
  rw [← HN.out] at hc HRD ⊢
  cases hv : validP xs
  · have G : Hid (ordOut xs = 0) := Lib.hid (by simp [ordOut, hv])
    go_enter Try.func20, Try.ntmps20
    go_wp2_with fail
    refine (i_ValidPermutation _ xs _ HRD.out hn).mono ?_
    rintro e w1 ⟨rfl, hd⟩
    rw [hv]
    go_wp2
    go_ret
    exact ⟨ret_i64 G.out.symm, hd⟩
  · obtain ⟨ns, hxs, hp⟩ := isP_of_valid hv
    have G : Hid (ordOut xs = ordL 1 (cycN ns)) := Lib.hid (by rw [ordOut, hv, if_pos rfl, hxs, casN_toNat])
    have HK : Hid (N = ns.length) := Lib.hid (by rw [HN.out, hxs, List.length_map])
    have HXS := Lib.hid hxs
    have HV := Lib.hid hv
    have HP := Lib.hid hp
    have hL32 := (isP_len hp).1
    have HOK := Lib.hid (cycN_ok hp)
    clear hv hp hxs
    go_enter Try.func20, Try.ntmps20
    go_wp2_with fail
    refine (i_ValidPermutation _ xs _ HRD.out hn).mono ?_
    rintro e w1 ⟨rfl, hd⟩
    rw [HV.out]
    have HX := Lib.hid hd
    clear hd
    go_wp2_with fail
    refine (i_cycles _ ns _ HP.out (by rw [← HXS.out]; exact HRD.out.ext HX.out)).mono ?_
    rintro e w2 ⟨v2, rfl, hL, hext⟩
    have HE2 := Lib.hid (HX.out.trans hext)
    obtain ⟨av, capv, hve, hve1, hve2, hcells⟩ := hL.form
    have HC := Lib.hid hcells
    subst hve
    clear hL hext hcells
    rw [List.length_map] at hve1 ⊢
    obtain ⟨L, HL⟩ : ∃ L, Hid (L = (cycN ns).length) := ⟨_, Lib.hid rfl⟩
    rw [← HL.out] at hve1 hL32 ⊢
    have HS32 : Hid (cycSum (cycN ns) ≤ 32) := Lib.hid (isP_len HP.out).2
    go_wp2
    go_loopw [3, 12] (fun q i wr => ∃ (k : Nat) (A : Int), k ≤ L ∧ i = .int .i64 k ∧ q = .int .i64 A ∧ Hid (ordMid (cycN ns) k A) ∧ Hid (Drawn w2 wr)) (fun _ i _ => L - (intOf i).toNat)
    case atStart => exact ⟨0, 1, by omega, rfl, rfl, Lib.hid ⟨1, rfl, by omega, by simp [cycSum], by simp⟩, Lib.hid (Drawn.refl _)⟩
    case round =>
      obtain ⟨k, A, hk, rfl, rfl, hmid, hd2⟩ := hrel
      have b0 := ordMid_bd hmid.out HS32.out
      have b1 : 0 ≤ A ∧ A ≤ 1000000 := ⟨by omega, b0.2⟩
      by_cases hlt : k < L
      · have hk' : k < (cycN ns).length := by rw [← HL.out]; exact hlt
        obtain ⟨g, rfl, hg0, hg1, hall⟩ := HC.out (by rw [List.length_map]; omega)
        obtain ⟨b, n, c, hcell0, hown, hnl, hc2⟩ := hall k (by rw [List.length_map]; exact hk')
        have hcell := (hd2.out.ext.cell (p := ⟨g, k, none⟩) hg1).trans hcell0
        have HNL : Hid (n = (cycN ns)[k].length) := Lib.hid (by rw [hnl, List.getElem_map, List.length_map])
        have hn32 : n ≤ 32 := by rw [HNL.out]; exact Nat.le_trans (cycSum_mem hk') HS32.out
        have HM : Hid (ordMid (cycN ns) (k + 1) (ordF A n)) := Lib.hid (by rw [HNL.out]; exact ordMid_next hmid.out hk' (HOK.out.2 _ (List.getElem_mem hk')))
        have b2 := ordMid_bd HM.out HS32.out
        obtain ⟨q1, q2, q3, q4⟩ := ordMid_quo hmid.out HS32.out n
        have hF : A / gcdOut A n * n = ordF A n := rfl
        obtain ⟨gg, HGG⟩ : ∃ gg, Hid (gcdOut A n = gg) := ⟨_, Lib.hid rfl⟩
        rw [HGG.out] at q1 q2 q3 q4 hF
        have hprod : 0 ≤ A / gg * (n : Int) ∧ A / gg * (n : Int) ≤ 1000000 := by rw [hF]; exact ⟨by omega, b2.2⟩
        obtain ⟨hp1, hp2⟩ := hprod
        have hgc : gcdOut A (n : Int) = gg := HGG.out
        clear hall hown hnl hcell0 hmid b0 b2
        go_wp2
        go_quiet ((first | (go_at_call 51; exact Calls.quiet_of_same (i_size _ _ _ _ (by omega))) | (go_at_call 53; exact Calls.quiet_of (i_gcdI A (n : Int) b1.1 b1.2 (by omega) (by omega) _))))
        go_wp2
        exact ⟨⟨k + 1, ordF A n, by omega, by go_num, rfl, HM, Lib.hid (hd2.out.drewN _)⟩, by simp only [intOf]; omega⟩
      · obtain rfl : k = L := by omega
        have HM : Hid (A = ordOut xs) := Lib.hid (by
          obtain ⟨a, h1, h2, h3, h4⟩ := hmid.out
          rw [List.drop_of_length_le (by rw [← HL.out]; omega), ordL] at h4
          rw [h4, G.out])
        clear hmid
        go_wp2
        go_ret
        exact ⟨ret_i64 HM.out, HE2.out.drawn hd2.out⟩
set_option maxHeartbeats 800000 in
theorem s_OrderOfPermutation (v : Value) (xs : List Int) (w : World) (h : Rd w v xs) (hn : xs.length ≤ 100000000) : Calls Try.prog 19 #[v] w fun e w' => e = .returned (.int .i64 (ordOut xs)) ∧ Ext w w' := by
  have HRD := Lib.hid h
  have _hn := hn
  obtain ⟨a, cap, rfl, hc, hm, _⟩ := h
  obtain ⟨N, HN⟩ : ∃ N, Hid (N = xs.length) := ⟨_, Lib.hid rfl⟩
  rw [← HN.out] at hc HRD ⊢
  cases hv : validP xs
  · have G : Hid (ordOut xs = 0) := Lib.hid (by simp [ordOut, hv])
    go_enter Try.func19, Try.ntmps19
    go_wp2_with fail
    refine (s_l04Ok _ xs _ HRD.out  ).mono ?_
    rintro e w1 ⟨rfl, hd⟩
    rw [hv]
    go_wp2
    go_ret
    exact ⟨ret_i64 G.out.symm, hd.ext⟩
  · obtain ⟨ns, hxs, hp⟩ := isP_of_valid hv
    have G : Hid (ordOut xs = ordL 1 (cycN ns)) := Lib.hid (by rw [ordOut, hv, if_pos rfl, hxs, casN_toNat])
    have HK : Hid (N = ns.length) := Lib.hid (by rw [HN.out, hxs, List.length_map])
    have HXS := Lib.hid hxs
    have HV := Lib.hid hv
    have HP := Lib.hid hp
    have hL32 := (isP_len hp).1
    have HOK := Lib.hid (cycN_ok hp)
    clear hv hp hxs
    go_enter Try.func19, Try.ntmps19
    go_wp2_with fail
    refine (s_l04Ok _ xs _ HRD.out  ).mono ?_
    rintro e w1 ⟨rfl, hd⟩
    rw [HV.out]
    have HX := Lib.hid hd.ext
    clear hd
    go_wp2_with fail
    refine (s_cycles _ ns _ HP.out (by rw [← HXS.out]; exact HRD.out.ext HX.out)).mono ?_
    rintro e w2 ⟨v2, rfl, hL, hext⟩
    have HE2 := Lib.hid (HX.out.trans hext)
    obtain ⟨av, capv, hve, hve1, hve2, hcells⟩ := hL.form
    have HC := Lib.hid hcells
    subst hve
    clear hL hext hcells
    rw [List.length_map] at hve1 ⊢
    obtain ⟨L, HL⟩ : ∃ L, Hid (L = (cycN ns).length) := ⟨_, Lib.hid rfl⟩
    rw [← HL.out] at hve1 hL32 ⊢
    have HS32 : Hid (cycSum (cycN ns) ≤ 32) := Lib.hid (isP_len HP.out).2
    go_wp2
    go_loopw [4, 5] (fun q i wr => ∃ (k : Nat) (A : Int), k ≤ L ∧ i = .int .i64 k ∧ q = .int .i64 A ∧ Hid (ordMid (cycN ns) k A) ∧ Hid (Drawn w2 wr)) (fun _ i _ => L - (intOf i).toNat)
    case atStart => exact ⟨0, 1, by omega, rfl, rfl, Lib.hid ⟨1, rfl, by omega, by simp [cycSum], by simp⟩, Lib.hid (Drawn.refl _)⟩
    case round =>
      obtain ⟨k, A, hk, rfl, rfl, hmid, hd2⟩ := hrel
      have b0 := ordMid_bd hmid.out HS32.out
      have b1 : 0 ≤ A ∧ A ≤ 1000000 := ⟨by omega, b0.2⟩
      by_cases hlt : k < L
      · have hk' : k < (cycN ns).length := by rw [← HL.out]; exact hlt
        obtain ⟨g, rfl, hg0, hg1, hall⟩ := HC.out (by rw [List.length_map]; omega)
        obtain ⟨b, n, c, hcell0, hown, hnl, hc2⟩ := hall k (by rw [List.length_map]; exact hk')
        have hcell := (hd2.out.ext.cell (p := ⟨g, k, none⟩) hg1).trans hcell0
        have HNL : Hid (n = (cycN ns)[k].length) := Lib.hid (by rw [hnl, List.getElem_map, List.length_map])
        have hn32 : n ≤ 32 := by rw [HNL.out]; exact Nat.le_trans (cycSum_mem hk') HS32.out
        have HM : Hid (ordMid (cycN ns) (k + 1) (ordF A n)) := Lib.hid (by rw [HNL.out]; exact ordMid_next hmid.out hk' (HOK.out.2 _ (List.getElem_mem hk')))
        have b2 := ordMid_bd HM.out HS32.out
        obtain ⟨q1, q2, q3, q4⟩ := ordMid_quo hmid.out HS32.out n
        have hF : A / gcdOut A n * n = ordF A n := rfl
        obtain ⟨gg, HGG⟩ : ∃ gg, Hid (gcdOut A n = gg) := ⟨_, Lib.hid rfl⟩
        rw [HGG.out] at q1 q2 q3 q4 hF
        have hprod : 0 ≤ A / gg * (n : Int) ∧ A / gg * (n : Int) ≤ 1000000 := by rw [hF]; exact ⟨by omega, b2.2⟩
        obtain ⟨hp1, hp2⟩ := hprod
        have hgc : gcdOut A (n : Int) = gg := HGG.out
        clear hall hown hnl hcell0 hmid b0 b2
        go_wp2_with fail
        refine (s_gcdI A (n : Int) b1.1 b1.2 (by omega) (by omega) _).mono ?_
        rintro e w3 ⟨rfl, x3⟩
        go_wp2
        exact ⟨⟨k + 1, ordF A n, by omega, by go_num, rfl, HM, Lib.hid (hd2.out.trans x3)⟩, by simp only [intOf]; omega⟩
      · obtain rfl : k = L := by omega
        have HM : Hid (A = ordOut xs) := Lib.hid (by
          obtain ⟨a, h1, h2, h3, h4⟩ := hmid.out
          rw [List.drop_of_length_le (by rw [← HL.out]; omega), ordL] at h4
          rw [h4, G.out])
        clear hmid
        go_wp2
        go_ret
        exact ⟨ret_i64 HM.out, HE2.out.drawn hd2.out⟩
theorem l_OrderOfPermutation (w : World) (v0 : Value) (xs0 : List Int) (h0 : Rd w v0 xs0) :
    Calls Try.prog 5 #[v0] w fun e w' => e = .returned (.bool true) ∧ Ext w w' := by
  have r0_0 := h0
  obtain ⟨ad0, cap0, rfl, hc0, hm0, _⟩ := h0
  by_cases hl0 : 1048576 < xs0.length
  · go_enter Try.func5, Try.ntmps5
    go_wp2
    go_ret
    exact ⟨rfl, Ext.refl _⟩
  have X0 : Ext w w := Ext.refl w
  go_enter Try.func5, Try.ntmps5
  go_wp2_with fail
  refine (l_toInt64S _ xs0 _ (by omega) r0_0).mono ?_
  rintro e w1 ⟨u_s0, rfl, s0_1, x1⟩
  have z1 := x1.size
  have X1 : Ext w w1 := X0.trans x1
  have r0_1 := r0_0.ext X1
  go_wp2_with fail
  refine (s_OrderOfPermutation _ xs0 _ s0_1.rd (by omega)).mono ?_
  rintro e w2 ⟨rfl, x2⟩
  have z2 := x2.size
  have X2 : Ext w w2 := X1.trans x2
  have s0_2 := s0_1.ext x2
  have r0_2 := r0_0.ext X2
  go_wp2_with fail
  refine (l_toInt64S _ xs0 _ (by omega) r0_2).mono ?_
  rintro e w3 ⟨u_x0x, rfl, x0x_3, x3⟩
  have z3 := x3.size
  have X3 : Ext w w3 := X2.trans x3
  have s0_3 := s0_2.ext x3
  have r0_3 := r0_0.ext X3
  go_wp2_with fail
  refine (i_OrderOfPermutation _ xs0 _ x0x_3.rd (by omega)).mono ?_
  rintro e w4 ⟨rfl, x4⟩
  have z4 := x4.size
  have X4 : Ext w w4 := X3.trans x4
  have s0_4 := s0_3.ext x4
  have x0x_4 := x0x_3.ext x4
  have r0_4 := r0_0.ext X4
  go_wp2_with fail
  refine (l_toInt64S _ xs0 _ (by omega) r0_4).mono ?_
  rintro e w5 ⟨u_t0, rfl, t0_5, x5⟩
  have z5 := x5.size
  have X5 : Ext w w5 := X4.trans x5
  have s0_5 := s0_4.ext x5
  have x0x_5 := x0x_4.ext x5
  have r0_5 := r0_0.ext X5
  go_wp2_with fail
  refine (l_eqInt64S_t _ _ xs0 _ x0x_5.rd t0_5.rd).mono ?_
  rintro e w6 ⟨rfl, d6⟩
  have x6 := d6.ext
  have z6 := x6.size
  have X6 : Ext w w6 := X5.trans x6
  have s0_6 := s0_5.ext x6
  have x0x_6 := x0x_5.ext x6
  have t0_6 := t0_5.ext x6
  have r0_6 := r0_0.ext X6
  go_wp2
  go_ret
  exact ⟨rfl, X6⟩

end Go.Proofs.Ytloacmfafccofaa
