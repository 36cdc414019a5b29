/- The law of PermutationOfCycles. No condition. -/
import Derived.Test.YtloacmfafccofaaPocS
namespace Go.Proofs.Ytloacmfafccofaa
open Go.RowKit

theorem OwnL.cell_hi {w : World} {lo hi g n cap j : Nat} {xss : List (List Int)} {u : Value} (h : OwnL w lo hi (.slice (some ⟨g, 0, none⟩) n cap) xss) (hj : j < xss.length) (hc : w.cell? ⟨g, j, none⟩ = some u) : ∀ k, u.ownBlock = some k → k < hi := by
  obtain ⟨vs, a1, a2, a3, a4⟩ := h
  have h1 := a1.cell j (by omega)
  rw [hc] at h1
  injection h1 with h1
  subst h1
  exact (a3 j (by omega) hj).2
set_option maxHeartbeats 400000 in
theorem l_markInt64SS2 (v : Value) (k : Nat) (xss : List (List Int)) (lo hi : Nat) (w : World) (hk : k + sumLen xss ≤ 4000000) (hlo : lo ≤ w.heap.size) (h : OwnL w lo hi v xss) (x : Value) (xs : List Int) (lo2 : Nat) (hx : Own w lo2 x xs) (hl2 : hi ≤ lo2) :
    Calls Try.prog 25 #[v, .int .i64 k] w fun e w' => e = .returned (.int .i64 ((k + sumLen xss : Nat) : Int)) ∧ OwnL w' lo hi v (markL k xss) ∧ Below lo w w' ∧ Own w' lo2 x xs := by
  have HXO := Lib.hid hx
  clear hx
  obtain ⟨a, cap, hv, hc, hm, _⟩ := h.form
  have H := Lib.hid h
  clear h
  subst hv
  obtain ⟨N, HN⟩ : ∃ N, Hid (N = xss.length) := ⟨_, Lib.hid rfl⟩
  obtain ⟨T, HT⟩ : ∃ T, Hid (T = k + sumLen xss) := ⟨_, Lib.hid rfl⟩
  rw [← HN.out] at hc H ⊢
  rw [← HT.out] at hk ⊢
  obtain ⟨ML, HML⟩ : ∃ ML, Hid (ML = markL k xss) := ⟨_, Lib.hid rfl⟩
  have HMN : Hid (ML.length = N) := Lib.hid (by rw [HML.out, markL_len, HN.out])
  rw [← HML.out]
  go_enter Try.func25, Try.ntmps25
  go_wp2
  go_loopw [1, 5] (fun q i wr => ∃ (j z : Nat), j ≤ N ∧ i = .int .i64 j ∧ q = .int .i64 z ∧ z ≤ T ∧ Hid (z = k + sumLen (xss.take j)) ∧ Hid (OwnL wr lo hi (.slice a N cap) (ML.take j ++ xss.drop j)) ∧ Hid (Below lo w wr) ∧ Hid (Own wr lo2 x xs)) (fun _ i _ => N - (intOf i).toNat)
  case atStart => exact ⟨0, k, by omega, rfl, rfl, by have := HT.out; omega, Lib.hid (by simp [sumLen]), Lib.hid (by simpa using H.out), Lib.hid (Below.refl _ _), HXO⟩
  case round =>
    obtain ⟨j, z, hj, rfl, rfl, hzT, hz, hown, hbel, hxo⟩ := hrel
    by_cases hlt : j < N
    · have hjx : j < xss.length := by rw [← HN.out]; exact hlt
      have hjm : j < ML.length := by rw [HMN.out]; exact hlt
      have hcur : j < (ML.take j ++ xss.drop j).length := by rw [List.length_append, List.length_take, List.length_drop]; omega
      obtain ⟨g, b, m, c, rfl, hg, hcell, ho, hturn⟩ := hown.out.turned rfl j hcur
      have hge : (ML.take j ++ xss.drop j)[j] = xss[j] := by
        rw [List.getElem_append_right (by rw [List.length_take]; omega), List.getElem_drop]
        congr 1; rw [List.length_take]; omega
      rw [hge] at ho
      have HCH := Lib.hid (hown.out.cell_hi hcur hcell)
      have HO := Lib.hid ho
      have HTU := Lib.hid hturn
      have hst := sumLen_take hjx
      have hzk : z + xss[j].length ≤ T := by
        have h1 := sumLen_take_le xss (j + 1)
        have h2 := HT.out
        have h3 := hz.out
        omega
      have HNZ : Hid (z + xss[j].length = k + sumLen (xss.take (j + 1))) := Lib.hid (by rw [hst, hz.out]; omega)
      have HLZ := Lib.hid (show lo ≤ wr.heap.size from Nat.le_trans hlo hbel.out.size)
      have HMJ : Hid (ML[j] = iota (z : Int) xss[j].length) := Lib.hid (by
        simp only [HML.out]
        rw [markL_get k xss j hjx, hz.out])
      clear ho hturn hge hst hcur hown
      go_wp2_with fail
      refine (l_markInt64S _ z xss[j] lo _ (by omega) HO.out).mono ?_
      rintro e w2 ⟨rfl, ho2, hg2⟩
      have HO2 : Hid (OwnL w2 lo hi (.slice (some ⟨g, 0, none⟩) N cap) (ML.take (j + 1) ++ xss.drop (j + 1))) := Lib.hid (by
        have h1 := HTU.out w2 _ ho2 hg2
        rw [← HMJ.out, half_set hjm (by rw [HMN.out, HN.out])] at h1
        exact h1)
      have HX2 : Hid (Own w2 lo2 x xs) := Lib.hid (hxo.out.kept hg2 (by
        cases hv : x.ownBlock with
        | none => exact .inl rfl
        | some q => right; intro e; have h1 := HCH.out q e.symm; have h2 := (hxo.out.lt q hv).1; omega))
      have HB2 : Hid (Below lo w w2) := Lib.hid (Ext.grown hbel.out w2 hg2 HLZ.out (fun q hq => (HO.out.lt q hq).1))
      obtain ⟨z2, HZ2⟩ : ∃ z2, Hid (z2 = z + xss[j].length) := ⟨_, Lib.hid rfl⟩
      rw [← HZ2.out] at HNZ hzk ⊢
      clear ho2 hg2 hz
      go_wp2
      exact ⟨⟨j + 1, z2, by omega, by go_num, rfl, hzk, HNZ, HO2, HB2, HX2⟩, by simp only [intOf]; omega⟩
    · obtain rfl : j = N := by omega
      have HZ : Hid (z = T) := Lib.hid (by rw [hz.out, HT.out, List.take_of_length_le (by rw [← HN.out]; omega)])
      have HF : Hid (ML.take j ++ xss.drop j = ML) := Lib.hid (by rw [List.take_of_length_le (by rw [HMN.out]; omega), List.drop_of_length_le (by rw [← HN.out]; omega), List.append_nil])
      clear hz
      go_wp2
      go_ret
      exact ⟨ret_i64 (by rw [HZ.out]), by rw [← HF.out]; exact hown.out, hbel.out, hxo.out⟩
set_option maxRecDepth 100000 in
set_option maxHeartbeats 2000000 in
theorem l_PermutationOfCycles (w : World) (n : Int) (v : Value) (css : List (List Int)) (h : RdL w v css) :
    Calls Try.prog 11 #[.int .i64 n, v] w fun e w' => e = .returned (.bool true) ∧ Ext w w' := by
  have HRD := Lib.hid h
  clear h
  obtain ⟨R, HR⟩ : ∃ R, Hid (R = pocOut n css) := ⟨_, Lib.hid rfl⟩
  obtain ⟨C, HC⟩ : ∃ C, Hid (C = pocCode n css) := ⟨_, Lib.hid rfl⟩
  have hCC : (C != C) = false := by simp
  have HRL : Hid (R.length ≤ 32) := Lib.hid (by rw [HR.out]; exact pocOut_len n css)
  have HI := Lib.hid (fun (u : Value) (W : World) (hu : RdL W u css) (hs : css.length + sumLen css ≤ 1048576) => i_PermutationOfCycles n u css W hu hs)
  have HS := Lib.hid (fun (u : Value) (W : World) (hu : RdL W u css) (hs : css.length + sumLen css ≤ 1048576) => s_PermutationOfCycles n u css W hu hs)
  rw [← HR.out, ← HC.out] at HI HS
  go_enter Try.func11, Try.ntmps11
  go_wp2_with fail
  refine (l_szInt64SS v css 1048576 _ HRD.out (by omega) (by omega)).mono ?_
  rintro e _ ⟨rfl, rfl⟩
  by_cases hn : (css.length : Int) + (sumLen css : Nat) ≤ 1048576
  · rw [if_pos hn]
    have HN : Hid (css.length + sumLen css ≤ 1048576) := Lib.hid (by omega)
    obtain ⟨Z, HZ⟩ : ∃ Z : Int, Hid (Z = 1048576 - (css.length : Int) - (sumLen css : Nat)) := ⟨_, Lib.hid rfl⟩
    have hZ : 0 ≤ Z := by rw [HZ.out]; omega
    rw [← HZ.out]
    clear hn
    go_wp2_with fail
    refine (l_toInt64SS v css _ HN.out HRD.out).mono ?_
    rintro e w1 ⟨u1, rfl, o1, x1⟩
    have HO1 := Lib.hid o1
    have X1 := Lib.hid x1
    clear o1 x1
    go_wp2_with fail
    refine (HS.out _ _ HO1.out.rd HN.out).mono ?_
    rintro e w2 ⟨uw, rfl, ow, x2⟩
    have HW := Lib.hid ow.rd
    have X2 := Lib.hid (X1.out.trans x2)
    clear ow x2
    go_wp2_with fail
    refine (l_toInt64SS v css _ HN.out (HRD.out.ext X2.out)).mono ?_
    rintro e w3 ⟨ux, rfl, ox, x3⟩
    have HX3 := Lib.hid ox
    have Y3 := Lib.hid x3
    have X3 := Lib.hid (X2.out.trans x3)
    clear ox x3
    go_wp2_with fail
    refine (HI.out _ _ HX3.out.rd HN.out).mono ?_
    rintro e w4 ⟨ug, rfl, og, x4⟩
    have HG4 := Lib.hid og
    have HX4 := Lib.hid (HX3.out.ext x4)
    have Y4 := Lib.hid (Y3.out.trans x4)
    have X4 := Lib.hid (X3.out.trans x4)
    clear og x4
    go_wp2_with fail
    refine (l_eqInt64S_t _ _ R _ HG4.out.rd (HW.out.ext Y4.out)).mono ?_
    rintro e w5 ⟨rfl, d5⟩
    have HG5 := Lib.hid (HG4.out.ext d5.ext)
    have HX5 := Lib.hid (HX4.out.ext d5.ext)
    have Y5 := Lib.hid (Y4.out.trans d5.ext)
    have X5 := Lib.hid (X4.out.trans d5.ext)
    clear d5 HG4 HX4 Y4 X4
    go_wp2_with fail
    refine (l_toInt64SS v css _ HN.out (HRD.out.ext X5.out)).mono ?_
    rintro e w6 ⟨u6, rfl, o6, x6⟩
    have HO6 := Lib.hid o6
    have HG6 := Lib.hid (HG5.out.ext x6)
    have HX6 := Lib.hid (HX5.out.ext x6)
    have Y6 := Lib.hid (Y5.out.trans x6)
    have X6 := Lib.hid (X5.out.trans x6)
    clear o6 x6 HG5 HX5 Y5 X5
    go_wp2_with fail
    refine (l_eqInt64SS_t _ _ css _ HX6.out.rd HO6.out.rd).mono ?_
    rintro e w7 ⟨rfl, d7⟩
    have HG7 := Lib.hid (HG6.out.ext d7.ext)
    have HX7 := Lib.hid (HX6.out.ext d7.ext)
    have Y7 := Lib.hid (Y6.out.trans d7.ext)
    have X7 := Lib.hid (X6.out.trans d7.ext)
    clear d7 HG6 HX6 Y6 X6
    go_wp2_with fail
    refine (l_markInt64SS2 _ 1 css _ _ _ (by have := HN.out; omega) Y7.out.size HX7.out _ _ _ HG7.out (Nat.le_refl _)).mono ?_
    rintro e w8 ⟨rfl, o8, b8, g8⟩
    have HG8 := Lib.hid g8
    have Y8 : Hid (Ext w2 w8) := Lib.hid (Below.trans Y7.out b8)
    have X8 : Hid (Ext w w8) := Lib.hid (X2.out.trans Y8.out)
    have hk8 : (0 : Int) ≤ ((1 + sumLen css : Nat) : Int) := by omega
    clear o8 b8 g8 HG7 HX7 Y7 X7
    generalize ((1 + sumLen css : Nat) : Int) = k8 at hk8 ⊢
    go_wp2_with fail
    refine (l_eqInt64S_t _ _ R _ HG8.out.rd (HW.out.ext Y8.out)).mono ?_
    rintro e w9 ⟨rfl, d9⟩
    have HG9 := Lib.hid (HG8.out.ext d9.ext)
    have Y9 := Lib.hid (Y8.out.trans d9.ext)
    have X9 := Lib.hid (X8.out.trans d9.ext)
    clear d9 HG8 Y8 X8
    obtain ⟨T, HT⟩ : ∃ T, Hid (T = ((1 + R.length : Nat) : Int)) := ⟨_, Lib.hid rfl⟩
    have hT0 : 0 ≤ T := by rw [HT.out]; omega
    have hTT : (T != T) = false := by simp
    go_wp2_with fail
    refine (l_markInt64S _ 1 R _ _ (by have := HRL.out; omega) HG9.out).mono ?_
    rintro e w10 ⟨rfl, o10, g10⟩
    rw [← HT.out]
    have HG10 := Lib.hid o10
    have Y10 : Hid (Ext w2 w10) := Lib.hid (Below.grown Y9.out g10 Y9.out.size (fun j hj => Nat.le_trans Y3.out.size (HG9.out.lt j hj).1))
    have X10 : Hid (Ext w w10) := Lib.hid (X2.out.trans Y10.out)
    clear o10 g10 HG9 Y9 X9
    go_wp2_with fail
    refine (l_heldInt64S _ 1 R.length _ (by have := HRL.out; omega) HG10.out.rd).mono ?_
    rintro e _ ⟨rfl, rfl⟩
    rw [← HT.out]
    go_wp2_with fail
    refine (l_toInt64SS v css _ HN.out (HRD.out.ext X10.out)).mono ?_
    rintro e w11 ⟨u11, rfl, o11, x11⟩
    have HO11 := Lib.hid o11
    have HG11 := Lib.hid (HG10.out.ext x11)
    have Y11 := Lib.hid (Y10.out.trans x11)
    have X11 := Lib.hid (X10.out.trans x11)
    clear o11 x11 HG10 Y10 X10
    go_wp2_with fail
    refine (HI.out _ _ HO11.out.rd HN.out).mono ?_
    rintro e w12 ⟨u12, rfl, o12, x12⟩
    have HO12 := Lib.hid o12
    have HG12 := Lib.hid (HG11.out.ext x12)
    have Y12 := Lib.hid (Y11.out.trans x12)
    have X12 := Lib.hid (X11.out.trans x12)
    clear o12 x12 HG11 Y11 X11
    go_wp2_with fail
    refine (l_eqInt64S_t _ _ R _ HO12.out.rd (HW.out.ext Y12.out)).mono ?_
    rintro e w13 ⟨rfl, d13⟩
    have HG13 := Lib.hid (HG12.out.ext d13.ext)
    have X13 := Lib.hid (X12.out.trans d13.ext)
    clear d13 HG12 Y12 X12
    go_wp2_with fail
    refine (l_heldInt64S _ 1 R.length _ (by have := HRL.out; omega) HG13.out.rd).mono ?_
    rintro e _ ⟨rfl, rfl⟩
    rw [← HT.out]
    go_wp2
    go_ret
    exact ⟨rfl, X13.out⟩
  · rw [if_neg hn]
    clear hn
    go_wp2
    go_ret
    exact ⟨rfl, Ext.refl _⟩
end Go.Proofs.Ytloacmfafccofaa
