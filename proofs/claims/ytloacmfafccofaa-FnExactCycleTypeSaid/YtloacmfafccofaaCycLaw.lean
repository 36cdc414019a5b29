/- CyclesOf: the walks of the program and of the reference, and the law. No condition. -/
import Derived.Test.YtloacmfafccofaaCycSign
import Derived.Test.YtloacmfafccofaaLawL
namespace Go.Proofs.Ytloacmfafccofaa
open Go.RowKit

def cycOut (xs : List Int) : List (List Int) := if validP xs then (cycN (xs.map Int.toNat)).map casN else []
theorem sumLen_cas : ∀ l : List (List Nat), sumLen (l.map casN) = cycSum l
  | [] => rfl
  | c :: r => by rw [List.map_cons, sumLen, cycSum, sumLen_cas r, List.length_map]
theorem cycOut_sum (xs : List Int) : sumLen (cycOut xs) ≤ 32 := by
  unfold cycOut
  cases hv : validP xs
  · simp [sumLen]
  · obtain ⟨ns, hxs, hp⟩ := isP_of_valid hv
    rw [if_pos rfl, hxs, casN_toNat, sumLen_cas]
    exact (isP_len hp).2
theorem i_CyclesOf (v : Value) (xs : List Int) (w : World) (h : Rd w v xs) (hn : xs.length ≤ 100000000) : Calls Try.prog 22 #[v] w (RetL w (cycOut xs)) := by
  have HRD := Lib.hid h
  have _hn := hn
  clear h
  cases hv : validP xs
  · have G : Hid (cycOut xs = []) := Lib.hid (by simp [cycOut, hv])
    go_enter Try.func22, Try.ntmps22
    go_wp2_with fail
    refine (i_ValidPermutation _ xs _ HRD.out hn).mono ?_
    rintro e w1 ⟨rfl, hd⟩
    rw [hv]
    go_wp2
    go_ret
    exact ⟨_, rfl, by rw [G.out]; exact OwnL.empty _ _ _ _ (OwnV.nil _ _ _), hd⟩
  · obtain ⟨ns, hxs, hp⟩ := isP_of_valid hv
    have G : Hid (cycOut xs = (cycN ns).map casN) := Lib.hid (by rw [cycOut, hv, if_pos rfl, hxs, casN_toNat])
    have HXS := Lib.hid hxs
    have HV := Lib.hid hv
    have HP := Lib.hid hp
    clear hv hp hxs
    rw [G.out]
    go_enter Try.func22, Try.ntmps22
    go_wp2_with fail
    refine (i_ValidPermutation _ xs _ HRD.out hn).mono ?_
    rintro e w1 ⟨rfl, hd⟩
    rw [HV.out]
    have HX := Lib.hid hd
    clear hd
    go_wp2_with fail
    refine (i_cycles _ ns _ HP.out (by rw [← HXS.out]; exact HRD.out.ext HX.out)).mono ?_
    rintro e w2 ⟨v2, rfl, hL, hext⟩
    go_wp2
    go_ret
    exact ⟨_, rfl, hL.mono HX.out.size, HX.out.trans hext⟩
theorem s_CyclesOf (v : Value) (xs : List Int) (w : World) (h : Rd w v xs) (hn : xs.length ≤ 100000000) : Calls Try.prog 21 #[v] w (RetL w (cycOut xs)) := by
  have HRD := Lib.hid h
  have _hn := hn
  clear h
  cases hv : validP xs
  · have G : Hid (cycOut xs = []) := Lib.hid (by simp [cycOut, hv])
    go_enter Try.func21, Try.ntmps21
    go_wp2_with fail
    refine (s_l04Ok _ xs _ HRD.out  ).mono ?_
    rintro e w1 ⟨rfl, hd⟩
    rw [hv]
    go_wp2
    go_ret
    exact ⟨_, rfl, by rw [G.out]; exact OwnL.empty _ _ _ _ (OwnV.nil _ _ _), hd.ext⟩
  · obtain ⟨ns, hxs, hp⟩ := isP_of_valid hv
    have G : Hid (cycOut xs = (cycN ns).map casN) := Lib.hid (by rw [cycOut, hv, if_pos rfl, hxs, casN_toNat])
    have HXS := Lib.hid hxs
    have HV := Lib.hid hv
    have HP := Lib.hid hp
    clear hv hp hxs
    rw [G.out]
    go_enter Try.func21, Try.ntmps21
    go_wp2_with fail
    refine (s_l04Ok _ xs _ HRD.out  ).mono ?_
    rintro e w1 ⟨rfl, hd⟩
    rw [HV.out]
    have HX := Lib.hid hd.ext
    clear hd
    go_wp2_with fail
    refine (s_cycles _ ns _ HP.out (by rw [← HXS.out]; exact HRD.out.ext HX.out)).mono ?_
    rintro e w2 ⟨v2, rfl, hL, hext⟩
    go_wp2
    go_ret
    exact ⟨_, rfl, hL.mono HX.out.size, HX.out.trans hext⟩
set_option maxRecDepth 100000 in
set_option maxHeartbeats 1000000 in
theorem l_CyclesOf (w : World) (v0 : Value) (xs0 : List Int) (h0 : Rd w v0 xs0) :
    Calls Try.prog 6 #[v0] w fun e w' => e = .returned (.bool true) ∧ Ext w w' := by
  have HRD := Lib.hid h0
  obtain ⟨ad0, cap0, rfl, hc0, hm0, _⟩ := h0
  by_cases hl0 : 1048576 < xs0.length
  · go_enter Try.func6, Try.ntmps6
    go_wp2
    go_ret
    exact ⟨rfl, Ext.refl _⟩
  obtain ⟨N, HN⟩ : ∃ N, Hid (N = xs0.length) := ⟨_, Lib.hid rfl⟩
  have HN1 : Hid (xs0.length ≤ 1048576) := Lib.hid (by omega)
  obtain ⟨R, HR⟩ : ∃ R, Hid (R = cycOut xs0) := ⟨_, Lib.hid rfl⟩
  have HSUM : Hid (sumLen R ≤ 32) := Lib.hid (by rw [HR.out]; exact cycOut_sum _)
  obtain ⟨T, HT⟩ : ∃ T, Hid (T = sumLen R) := ⟨_, Lib.hid rfl⟩
  have hT : T ≤ 32 := by rw [HT.out]; exact HSUM.out
  rw [← HN.out] at hc0 hl0 HRD ⊢
  go_enter Try.func6, Try.ntmps6
  go_wp2_with fail
  refine (l_toInt64S _ xs0 _ HN1.out HRD.out).mono ?_
  rintro e w1 ⟨u1, rfl, o1, x1⟩
  have HO1 := Lib.hid o1
  have X1 := Lib.hid x1
  clear o1 x1
  go_wp2_with fail
  refine (s_CyclesOf _ xs0 _ HO1.out.rd (by have := HN1.out; omega)).mono ?_
  rintro e w2 ⟨uw, rfl, ow, x2⟩
  rw [← HR.out] at ow
  have HW := Lib.hid ow.rd
  have X2 := Lib.hid (X1.out.trans x2)
  clear ow x2
  go_wp2_with fail
  refine (l_toInt64S _ xs0 _ HN1.out (HRD.out.ext X2.out)).mono ?_
  rintro e w3 ⟨ux, rfl, ox, x3⟩
  have HOX := Lib.hid ox
  have Y3 := Lib.hid x3
  have X3 := Lib.hid (X2.out.trans x3)
  clear ox x3
  go_wp2_with fail
  refine (i_CyclesOf _ xs0 _ HOX.out.rd (by have := HN1.out; omega)).mono ?_
  rintro e w4 ⟨ug, rfl, og, x4⟩
  rw [← HR.out] at og
  have HG4 := Lib.hid og
  have HX4 := Lib.hid (HOX.out.ext x4)
  have Y4 := Lib.hid (Y3.out.trans x4)
  have X4 := Lib.hid (X3.out.trans x4)
  have HXB : Hid (∀ k, ux.ownBlock = some k → k < w3.heap.size) := Lib.hid (fun k hk => (HOX.out.lt k hk).2)
  have S4 := Lib.hid x4.size
  clear og x4
  go_wp2_with fail
  refine (l_eqInt64SS_t _ _ R _ HG4.out.rd (HW.out.ext Y4.out)).mono ?_
  rintro e w5 ⟨rfl, d5⟩
  have Z5 := Lib.hid d5.ext
  have HG5 := Lib.hid (HG4.out.ext d5.ext)
  have HX5 := Lib.hid (HX4.out.ext d5.ext)
  have Y5 := Lib.hid (Y4.out.trans d5.ext)
  have X5 := Lib.hid (X4.out.trans d5.ext)
  have S5 := Lib.hid (Nat.le_trans S4.out d5.ext.size)
  clear d5
  go_wp2_with fail
  refine (l_toInt64S _ xs0 _ HN1.out (HRD.out.ext X5.out)).mono ?_
  rintro e w6 ⟨u6, rfl, o6, x6⟩
  have HO6 := Lib.hid o6
  have HG6 := Lib.hid (HG5.out.ext x6)
  have HX6 := Lib.hid (HX5.out.ext x6)
  have Y6 := Lib.hid (Y5.out.trans x6)
  have X6 := Lib.hid (X5.out.trans x6)
  have S6 := Lib.hid (Nat.le_trans S5.out x6.size)
  clear o6 x6
  go_wp2_with fail
  refine (l_eqInt64S_t _ _ xs0 _ HX6.out.rd HO6.out.rd).mono ?_
  rintro e w7 ⟨rfl, d7⟩
  have HG7 := Lib.hid (HG6.out.ext d7.ext)
  have HX7 := Lib.hid (HX6.out.ext d7.ext)
  have Y7 := Lib.hid (Y6.out.trans d7.ext)
  have X7 := Lib.hid (X6.out.trans d7.ext)
  have S7 := Lib.hid (Nat.le_trans S6.out d7.ext.size)
  clear d7
  go_wp2_with fail
  refine (l_markInt64S _ 1 xs0 _ _ (by have := HN1.out; omega) HX7.out).mono ?_
  rintro e w8 ⟨rfl, o8, g8⟩
  have HG8 := Lib.hid (HG7.out.keptOld g8 HXB.out)
  have Y8 : Hid (Ext w2 w8) := Lib.hid (Below.grown Y7.out g8 Y7.out.size (fun j hj => (HX7.out.lt j hj).1))
  have X8 := Lib.hid (X2.out.trans Y8.out)
  have S8 := Lib.hid (Nat.le_trans S7.out g8.size)
  have hk8 : (1 : Int) ≤ ((1 + xs0.length : Nat) : Int) := by omega
  clear o8 g8
  generalize ((1 + xs0.length : Nat) : Int) = k8 at hk8 ⊢
  go_wp2_with fail
  refine (l_eqInt64SS_t _ _ R _ HG8.out.rd (HW.out.ext Y8.out)).mono ?_
  rintro e w9 ⟨rfl, d9⟩
  have HG9 := Lib.hid (HG8.out.ext d9.ext)
  have Y9 := Lib.hid (Y8.out.trans d9.ext)
  have X9 := Lib.hid (X8.out.trans d9.ext)
  have HSZ := Lib.hid (Nat.le_trans S8.out d9.ext.size)
  clear d9
  go_wp2_with fail
  refine (l_markInt64SS _ 1 R _ _ _ (by have := HSUM.out; omega) HSZ.out HG9.out).mono ?_
  rintro e w10 ⟨rfl, o10, b10⟩
  have HG10 := Lib.hid o10
  have X10 : Hid (Ext w w10) := Lib.hid (Below.trans X9.out (b10.mono X3.out.size))
  have Y10 : Hid (Ext w2 w10) := Lib.hid (Below.trans Y9.out (b10.mono Y3.out.size))
  have hTT : ((1 + sumLen R : Nat) : Int) = ((1 + T : Nat) : Int) := by rw [HT.out]
  rw [hTT]
  clear o10 b10 hTT
  have hne : (((1 + T : Nat) : Int) != ((1 + T : Nat) : Int)) = false := by simp
  have hpos : (0 : Int) ≤ ((1 + T : Nat) : Int) := by omega
  have HMM : Hid (((1 + sumLen R : Nat) : Int) = ((1 + T : Nat) : Int)) := Lib.hid (by rw [HT.out])
  generalize ((1 + T : Nat) : Int) = M at hne hpos HMM ⊢
  go_wp2_with fail
  refine (l_heldInt64SS _ 1 R _ (by have := HSUM.out; omega) HG10.out.rd).mono ?_
  rintro e _ ⟨rfl, rfl⟩
  rw [HMM.out]
  go_wp2_with fail
  refine (l_toInt64S _ xs0 _ HN1.out (HRD.out.ext X10.out)).mono ?_
  rintro e w11 ⟨u11, rfl, o11, x11⟩
  have HO11 := Lib.hid o11
  have HG11 := Lib.hid (HG10.out.ext x11)
  have Y11 := Lib.hid (Y10.out.trans x11)
  have X11 := Lib.hid (X10.out.trans x11)
  clear o11 x11
  go_wp2_with fail
  refine (i_CyclesOf _ xs0 _ HO11.out.rd (by have := HN1.out; omega)).mono ?_
  rintro e w12 ⟨uh, rfl, oh, x12⟩
  rw [← HR.out] at oh
  have HH := Lib.hid oh.rd
  have HG12 := Lib.hid (HG11.out.ext x12)
  have Y12 := Lib.hid (Y11.out.trans x12)
  have X12 := Lib.hid (X11.out.trans x12)
  clear oh x12
  go_wp2_with fail
  refine (l_eqInt64SS_t _ _ R _ HH.out (HW.out.ext Y12.out)).mono ?_
  rintro e w13 ⟨rfl, d13⟩
  have HG13 := Lib.hid (HG12.out.ext d13.ext)
  have X13 := Lib.hid (X12.out.trans d13.ext)
  clear d13
  go_wp2_with fail
  refine (l_heldInt64SS _ 1 R _ (by have := HSUM.out; omega) HG13.out.rd).mono ?_
  rintro e _ ⟨rfl, rfl⟩
  rw [HMM.out]
  go_wp2
  go_ret
  exact ⟨rfl, X13.out⟩
end Go.Proofs.Ytloacmfafccofaa
