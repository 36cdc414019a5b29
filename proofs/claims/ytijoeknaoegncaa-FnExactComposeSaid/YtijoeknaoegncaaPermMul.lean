/- Compose: the walks of the program and of the reference, and the law. No condition. -/
import Derived.Test.YtijoeknaoegncaaPermInv
namespace Go.Proofs.Ytijoeknaoegncaa
open Go.RowKit

set_option maxHeartbeats 400000 in
theorem i_times (v v' : Value) (ns ms : List Nat) (w : World) (hp : IsP ns) (hl : ms.length = ns.length) (h : Rd w v (casN ns)) (h' : Rd w v' (casN ms)) : Calls Try.prog 46 #[v, v'] w (RetInts w (timesN ns ms)) := by
  obtain ⟨hp1, hp2, _⟩ := hp
  have HP2 := Lib.hid hp2
  have HL := Lib.hid hl
  obtain ⟨a, n, cap, rfl⟩ : ∃ a n cap, v = .slice a n cap := by obtain ⟨a, cap, h1, _⟩ := h; exact ⟨_, _, _, h1⟩
  obtain ⟨a', n', cap', rfl⟩ : ∃ a n cap, v' = .slice a n cap := by obtain ⟨a, cap, h1, _⟩ := h'; exact ⟨_, _, _, h1⟩
  obtain ⟨rfl, hc, hm, HC⟩ := rd_cells h
  obtain ⟨rfl, hc', hm', HC'⟩ := rd_cells h'
  obtain ⟨N, HN⟩ : ∃ N, Hid (N = ns.length) := ⟨_, Lib.hid rfl⟩
  obtain ⟨R, HR⟩ : ∃ R, Hid (R = timesN ns ms) := ⟨_, Lib.hid rfl⟩
  clear h h' hp2
  rw [hl] at hc' ⊢
  rw [← HN.out] at hc hc' hp1 ⊢
  rw [← HR.out]
  clear hl
  go_enter Try.func46, Try.ntmps46
  go_wp2_with (at_make; refine wp_make _ rfl _ _ rfl w.heap.size .i64 .i64 _ _ N rfl rfl rfl rfl (by omega) (Nat.le_refl _) ?_; intro w1 hown hext)
  go_loopw [12] (fun i wr => ∃ (k : Nat) (ys : List Int), k ≤ N ∧ i = .int .i64 k ∧ Hid (ys.length = N) ∧ Hid (∀ t (ht : t < ys.length) (hx : t < R.length), t < k → ys[t] = R[t]) ∧ Hid (Own wr w.heap.size (.slice (some ⟨w.heap.size, 0, none⟩) N N) ys) ∧ Hid (Ext w wr)) (fun i _ => N - (intOf i).toNat)
  case atStart => exact ⟨0, List.replicate N 0, by omega, rfl, Lib.hid (by simp), Lib.hid (fun t ht hx h => by omega), Lib.hid hown, Lib.hid hext⟩
  case round =>
    clear hown hext
    obtain ⟨k, ys, hk, rfl, hyl, hmid, hown, hext⟩ := hrel
    by_cases hlt : k < N
    · have hlt' : k < ns.length := by rw [← HN.out]; exact hlt
      obtain ⟨b, o, rfl, hb, hall⟩ := HC.out (by rw [← HN.out]; omega)
      obtain ⟨b2, o2, rfl, hb2, hall2⟩ := HC'.out (by rw [HL.out, ← HN.out]; omega)
      have hx := (hext.out.cell (p := ⟨b, o + k, none⟩) hb).trans (hall k hlt')
      have hnk := HP2.out k hlt'
      have hx2 := (hext.out.cell (p := ⟨b2, o2 + ns[k], none⟩) hb2).trans (hall2 ns[k] (by rw [HL.out]; exact hnk))
      have HRK : Hid (∃ h : k < R.length, R[k] = (ms[ns[k]]'(by rw [HL.out]; exact hnk) : Nat)) := Lib.hid (by
        refine ⟨by rw [HR.out, timesN_len]; exact hlt', ?_⟩
        simp only [HR.out]
        exact timesN_get ns ms k hlt' _)
      generalize (ms[ns[k]]'(by rw [HL.out]; exact hnk)) = z at hx2 HRK
      obtain ⟨y, HY⟩ : ∃ y, Hid (y = ns[k]) := ⟨_, Lib.hid rfl⟩
      have hyN : y < N := by rw [HY.out, HN.out]; exact hnk
      rw [← HY.out] at hx hx2
      clear hall hall2 hnk
      have hc1 := hown.out.cell k (by rw [List.length_map]; have := hyl.out; omega)
      have hf1 := hown.out.frozen k
      obtain ⟨hs1, hs2⟩ := hown.out.stored k (.int .i64 (z : Int))
      have HS : Hid (Own (wr.setCell ⟨w.heap.size, k, none⟩ (.int .i64 (z : Int))) w.heap.size (.slice (some ⟨w.heap.size, 0, none⟩) N N) (ys.set k (z : Int))) := Lib.hid (by
        unfold Own; rw [List.map_set]; exact hs1)
      have HE : Hid (Ext w (wr.setCell ⟨w.heap.size, k, none⟩ (.int .i64 (z : Int)))) := Lib.hid (ext_app (e := 2) (v := .slice (some ⟨w.heap.size, 0, none⟩) N N) hext.out hown.out hs2)
      have HM : Hid (∀ t (ht : t < (ys.set k (z : Int)).length) (hx : t < R.length), t < k + 1 → (ys.set k (z : Int))[t] = R[t]) := Lib.hid (by
        intro t ht hx h1
        rw [List.getElem_set]
        by_cases he : k = t
        · subst he; rw [if_pos rfl]; obtain ⟨_, h3⟩ := HRK.out; exact h3.symm
        · rw [if_neg he]; exact hmid.out t (by simpa using ht) hx (by omega))
      have HLN : Hid ((ys.set k (z : Int)).length = N) := Lib.hid (by rw [List.length_set]; exact hyl.out)
      generalize (ys.map (Value.int .i64))[k]'(by rw [List.length_map]; have := hyl.out; omega) = old at hc1
      clear hs1 hs2 hown hext hmid hyl
      go_wp2
      exact ⟨⟨k + 1, _, by omega, by go_num, HLN, HM, HS, HE⟩, by simp only [intOf]; omega⟩
    · obtain rfl : k = N := by omega
      have HF : Hid (ys = R) := Lib.hid (by
        have h1 := hyl.out
        have h2 : R.length = k := by rw [HR.out, timesN_len, HN.out]
        apply List.ext_getElem (by rw [h1, h2])
        intro i p q
        exact hmid.out i p q (by omega))
      clear hmid hyl
      go_wp2
      go_ret
      exact ⟨_, rfl, by rw [← HF.out]; exact hown.out, hext.out⟩
set_option maxHeartbeats 400000 in
theorem s_times (v v' : Value) (ns ms : List Nat) (w : World) (hp : IsP ns) (hl : ms.length = ns.length) (h : Rd w v (casN ns)) (h' : Rd w v' (casN ms)) : Calls Try.prog 45 #[v, v'] w (RetInts w (timesN ns ms)) := by
  obtain ⟨hp1, hp2, _⟩ := hp
  have HP2 := Lib.hid hp2
  have HL := Lib.hid hl
  obtain ⟨a, n, cap, rfl⟩ : ∃ a n cap, v = .slice a n cap := by obtain ⟨a, cap, h1, _⟩ := h; exact ⟨_, _, _, h1⟩
  obtain ⟨a', n', cap', rfl⟩ : ∃ a n cap, v' = .slice a n cap := by obtain ⟨a, cap, h1, _⟩ := h'; exact ⟨_, _, _, h1⟩
  obtain ⟨rfl, hc, hm, HC⟩ := rd_cells h
  obtain ⟨rfl, hc', hm', HC'⟩ := rd_cells h'
  obtain ⟨N, HN⟩ : ∃ N, Hid (N = ns.length) := ⟨_, Lib.hid rfl⟩
  obtain ⟨R, HR⟩ : ∃ R, Hid (R = timesN ns ms) := ⟨_, Lib.hid rfl⟩
  clear h h' hp2
  rw [hl] at hc' ⊢
  rw [← HN.out] at hc hc' hp1 ⊢
  rw [← HR.out]
  have HRL : Hid (R.length = N) := Lib.hid (by rw [HR.out, timesN_len, HN.out])
  clear hl
  go_enter Try.func45, Try.ntmps45
  go_wp2
  go_loopw [5, 6] (fun v i wr => ∃ k : Nat, k ≤ N ∧ i = .int .i64 k ∧ Hid (Own wr w.heap.size v (R.take k)) ∧ Hid (Ext w wr)) (fun _ i _ => N - (intOf i).toNat)
  case atStart => exact ⟨0, by omega, rfl, Lib.hid (by rw [List.take_zero]; exact OwnV.empty _ _), Lib.hid (ext_alloc _ _)⟩
  case round =>
    obtain ⟨k, hk, rfl, hown, hext⟩ := hrel
    by_cases hlt : k < N
    · have hlt' : k < ns.length := by rw [← HN.out]; exact hlt
      obtain ⟨b, o, rfl, hb, hall⟩ := HC.out (by rw [← HN.out]; omega)
      obtain ⟨b2, o2, rfl, hb2, hall2⟩ := HC'.out (by rw [HL.out, ← HN.out]; omega)
      have hx := (hext.out.cell (p := ⟨b, o + k, none⟩) hb).trans (hall k hlt')
      have hnk := HP2.out k hlt'
      have hx2 := (hext.out.cell (p := ⟨b2, o2 + ns[k], none⟩) hb2).trans (hall2 ns[k] (by rw [HL.out]; exact hnk))
      have HRK : Hid (∃ h : k < R.length, R[k] = (ms[ns[k]]'(by rw [HL.out]; exact hnk) : Nat)) := Lib.hid (by
        refine ⟨by rw [HR.out, timesN_len]; exact hlt', ?_⟩
        simp only [HR.out]
        exact timesN_get ns ms k hlt' _)
      generalize (ms[ns[k]]'(by rw [HL.out]; exact hnk)) = z at hx2 HRK
      obtain ⟨y, HY⟩ : ∃ y, Hid (y = ns[k]) := ⟨_, Lib.hid rfl⟩
      have hyN : y < N := by rw [HY.out, HN.out]; exact hnk
      rw [← HY.out] at hx hx2
      clear hall hall2 hnk
      have hown1 := hown.out
      have hz := hext.out.size
      have HT : Hid (R.take (k + 1) = R.take k ++ [(z : Int)]) := Lib.hid (by
        obtain ⟨h1, h2⟩ := HRK.out
        rw [List.take_succ_eq_append_getElem h1, h2])
      have hlen : (R.take k).length ≤ 32 := by rw [List.length_take]; omega
      go_wp2_with (at_builtin; refine wp_app1 _ rfl _ _ rfl _ _ (R.take k) rfl hown1 (z : Int) rfl (by omega) hz ?_; intro v2 w' hown3 hgr)
      have HO : Hid (Own w' w.heap.size v2 (R.take (k + 1))) := Lib.hid (by rw [HT.out]; exact hown3)
      have HE : Hid (Ext w w') := Lib.hid (ext_app (e := 2) hext.out hown1 hgr)
      clear hown3 hgr hown1
      go_wp2
      exact ⟨⟨k + 1, by omega, by go_num, HO, HE⟩, by simp only [intOf]; omega⟩
    · obtain rfl : k = N := by omega
      go_wp2
      go_ret
      exact ⟨_, rfl, by rw [← List.take_of_length_le (l := R) (i := k) (by have := HRL.out; omega)]; exact hown.out, hext.out⟩
def mulOut (xs ys : List Int) : List Int := if validP xs && validP ys then (if xs.length = ys.length then timesN (xs.map Int.toNat) (ys.map Int.toNat) else []) else []
def mulCode (xs ys : List Int) : Int := if validP xs && validP ys then (if xs.length = ys.length then 0 else 2) else 1
theorem mulOut_len (xs ys : List Int) : (mulOut xs ys).length ≤ 3000000 := by
  unfold mulOut; split
  · rename_i h
    rw [Bool.and_eq_true, validP, Bool.and_eq_true, decide_eq_true_eq] at h
    split
    · rw [timesN_len, List.length_map]; omega
    · simp
  · simp
set_option maxHeartbeats 400000 in
theorem i_Compose (v : Value) (xs : List Int) (v' : Value) (ys : List Int) (w : World) (h : Rd w v xs) (h' : Rd w v' ys) (h1n : xs.length ≤ 100000000) (h2n : ys.length ≤ 100000000) : Calls Try.prog 22 #[v, v'] w (RetIntsI w (mulOut xs ys) (mulCode xs ys)) := by
  have HRD := Lib.hid h
  have HRD' := Lib.hid h'
  have _h1 := h1n
  have _h2 := h2n
  obtain ⟨a, cap, rfl, hc, hm, _⟩ := h
  obtain ⟨a', cap', rfl, hc', hm', _⟩ := h'
  obtain ⟨N, HN⟩ : ∃ N, Hid (N = xs.length) := ⟨_, Lib.hid rfl⟩
  obtain ⟨M, HM⟩ : ∃ M, Hid (M = ys.length) := ⟨_, Lib.hid rfl⟩
  rw [← HN.out] at hc HRD ⊢
  rw [← HM.out] at hc' HRD' ⊢
  cases hv : validP xs
  · have G : Hid (mulOut xs ys = []) := Lib.hid (by simp [mulOut, hv])
    have G2 : Hid (mulCode xs ys = 1) := Lib.hid (by simp [mulCode, hv])
    go_enter Try.func22, Try.ntmps22
    go_wp2_with fail
    refine (i_ValidPermutation _ xs _ HRD.out h1n).mono ?_
    rintro e w1 ⟨rfl, hd⟩
    rw [hv]
    go_wp2
    go_ret2
    exact ⟨_, by rw [G2.out]; rfl, by rw [G.out]; exact OwnV.nil _ _ _, hd⟩
  · have HV := Lib.hid hv
    cases hv' : validP ys
    · have G : Hid (mulOut xs ys = []) := Lib.hid (by simp [mulOut, hv'])
      have G2 : Hid (mulCode xs ys = 1) := Lib.hid (by simp [mulCode, hv'])
      clear hv
      go_enter Try.func22, Try.ntmps22
      go_wp2_with fail
      refine (i_ValidPermutation _ xs _ HRD.out h1n).mono ?_
      rintro e w1 ⟨rfl, hd⟩
      rw [HV.out]
      go_wp2_with fail
      refine (i_ValidPermutation _ ys _ (HRD'.out.ext hd) h2n).mono ?_
      rintro e w2 ⟨rfl, hd2⟩
      rw [hv']
      go_wp2
      go_ret2
      exact ⟨_, by rw [G2.out]; rfl, by rw [G.out]; exact OwnV.nil _ _ _, hd.trans hd2⟩
    · have HV' := Lib.hid hv'
      by_cases he : N = M
      · have G2 : Hid (mulCode xs ys = 0) := Lib.hid (by simp [mulCode, hv, hv', ← HN.out, ← HM.out, he])
        have G0 : Hid (mulOut xs ys = timesN (xs.map Int.toNat) (ys.map Int.toNat)) := Lib.hid (by simp [mulOut, hv, hv', ← HN.out, ← HM.out, he])
        obtain ⟨ns, hxs, hp⟩ := isP_of_valid hv
        obtain ⟨ms, hys, hp'⟩ := isP_of_valid hv'
        have G : Hid (mulOut xs ys = timesN ns ms) := Lib.hid (by rw [G0.out, hxs, hys, casN_toNat, casN_toNat])
        have HP := Lib.hid hp
        have HL : Hid (ms.length = ns.length) := Lib.hid (by
          have h1 := HN.out
          have h2 := HM.out
          rw [hxs, List.length_map] at h1
          rw [hys, List.length_map] at h2
          omega)
        have HXS := Lib.hid hxs
        have HYS := Lib.hid hys
        have hne : ((N : Int) != (M : Int)) = false := by simp [he]
        rw [G2.out, G.out]
        clear hv hv' hp hp' hxs hys he
        go_enter Try.func22, Try.ntmps22
        go_wp2_with fail
        refine (i_ValidPermutation _ xs _ HRD.out h1n).mono ?_
        rintro e w1 ⟨rfl, hd⟩
        rw [HV.out]
        go_wp2_with fail
        refine (i_ValidPermutation _ ys _ (HRD'.out.ext hd) h2n).mono ?_
        rintro e w2 ⟨rfl, hd2⟩
        rw [HV'.out]
        have HX := Lib.hid (hd.trans hd2)
        clear hd hd2
        go_wp2_with fail
        refine (i_times _ _ ns ms _ HP.out HL.out (by rw [← HXS.out]; exact HRD.out.ext HX.out) (by rw [← HYS.out]; exact HRD'.out.ext HX.out)).mono ?_
        rintro e w3 ⟨u, rfl, hown, hext⟩
        go_wp2
        go_ret2
        exact ⟨_, rfl, hown.mono HX.out.size, HX.out.trans hext⟩
      · have G2 : Hid (mulCode xs ys = 2) := Lib.hid (by simp [mulCode, hv, hv', ← HN.out, ← HM.out, he])
        have G : Hid (mulOut xs ys = []) := Lib.hid (by simp [mulOut, hv, hv', ← HN.out, ← HM.out, he])
        have hne : ((N : Int) != (M : Int)) = true := by rw [bne_iff_ne]; omega
        clear hv hv' he
        go_enter Try.func22, Try.ntmps22
        go_wp2_with fail
        refine (i_ValidPermutation _ xs _ HRD.out h1n).mono ?_
        rintro e w1 ⟨rfl, hd⟩
        rw [HV.out]
        go_wp2_with fail
        refine (i_ValidPermutation _ ys _ (HRD'.out.ext hd) h2n).mono ?_
        rintro e w2 ⟨rfl, hd2⟩
        rw [HV'.out]
        go_wp2
        go_ret2
        exact ⟨_, by rw [G2.out]; rfl, by rw [G.out]; exact OwnV.nil _ _ _, hd.trans hd2⟩
set_option maxHeartbeats 400000 in
theorem s_Compose (v : Value) (xs : List Int) (v' : Value) (ys : List Int) (w : World) (h : Rd w v xs) (h' : Rd w v' ys) (h1n : xs.length ≤ 100000000) (h2n : ys.length ≤ 100000000) : Calls Try.prog 21 #[v, v'] w (RetIntsI w (mulOut xs ys) (mulCode xs ys)) := by
  have HRD := Lib.hid h
  have HRD' := Lib.hid h'
  have _h1 := h1n
  have _h2 := h2n
  obtain ⟨a, cap, rfl, hc, hm, _⟩ := h
  obtain ⟨a', cap', rfl, hc', hm', _⟩ := h'
  obtain ⟨N, HN⟩ : ∃ N, Hid (N = xs.length) := ⟨_, Lib.hid rfl⟩
  obtain ⟨M, HM⟩ : ∃ M, Hid (M = ys.length) := ⟨_, Lib.hid rfl⟩
  rw [← HN.out] at hc HRD ⊢
  rw [← HM.out] at hc' HRD' ⊢
  cases hv : validP xs
  · have G : Hid (mulOut xs ys = []) := Lib.hid (by simp [mulOut, hv])
    have G2 : Hid (mulCode xs ys = 1) := Lib.hid (by simp [mulCode, hv])
    go_enter Try.func21, Try.ntmps21
    go_wp2_with fail
    refine (s_l04Ok _ xs _ HRD.out  ).mono ?_
    rintro e w1 ⟨rfl, hd⟩
    rw [hv]
    go_wp2
    go_ret2
    exact ⟨_, by rw [G2.out]; rfl, by rw [G.out]; exact OwnV.nil _ _ _, hd.ext⟩
  · have HV := Lib.hid hv
    cases hv' : validP ys
    · have G : Hid (mulOut xs ys = []) := Lib.hid (by simp [mulOut, hv'])
      have G2 : Hid (mulCode xs ys = 1) := Lib.hid (by simp [mulCode, hv'])
      clear hv
      go_enter Try.func21, Try.ntmps21
      go_wp2_with fail
      refine (s_l04Ok _ xs _ HRD.out  ).mono ?_
      rintro e w1 ⟨rfl, hd⟩
      rw [HV.out]
      go_wp2_with fail
      refine (s_l04Ok _ ys _ (HRD'.out.ext hd.ext)  ).mono ?_
      rintro e w2 ⟨rfl, hd2⟩
      rw [hv']
      go_wp2
      go_ret2
      exact ⟨_, by rw [G2.out]; rfl, by rw [G.out]; exact OwnV.nil _ _ _, hd.ext.trans hd2.ext⟩
    · have HV' := Lib.hid hv'
      by_cases he : N = M
      · have G2 : Hid (mulCode xs ys = 0) := Lib.hid (by simp [mulCode, hv, hv', ← HN.out, ← HM.out, he])
        have G0 : Hid (mulOut xs ys = timesN (xs.map Int.toNat) (ys.map Int.toNat)) := Lib.hid (by simp [mulOut, hv, hv', ← HN.out, ← HM.out, he])
        obtain ⟨ns, hxs, hp⟩ := isP_of_valid hv
        obtain ⟨ms, hys, hp'⟩ := isP_of_valid hv'
        have G : Hid (mulOut xs ys = timesN ns ms) := Lib.hid (by rw [G0.out, hxs, hys, casN_toNat, casN_toNat])
        have HP := Lib.hid hp
        have HL : Hid (ms.length = ns.length) := Lib.hid (by
          have h1 := HN.out
          have h2 := HM.out
          rw [hxs, List.length_map] at h1
          rw [hys, List.length_map] at h2
          omega)
        have HXS := Lib.hid hxs
        have HYS := Lib.hid hys
        have hne : ((N : Int) != (M : Int)) = false := by simp [he]
        rw [G2.out, G.out]
        clear hv hv' hp hp' hxs hys he
        go_enter Try.func21, Try.ntmps21
        go_wp2_with fail
        refine (s_l04Ok _ xs _ HRD.out  ).mono ?_
        rintro e w1 ⟨rfl, hd⟩
        rw [HV.out]
        go_wp2_with fail
        refine (s_l04Ok _ ys _ (HRD'.out.ext hd.ext)  ).mono ?_
        rintro e w2 ⟨rfl, hd2⟩
        rw [HV'.out]
        have HX := Lib.hid (hd.ext.trans hd2.ext)
        clear hd hd2
        go_wp2_with fail
        refine (s_times _ _ ns ms _ HP.out HL.out (by rw [← HXS.out]; exact HRD.out.ext HX.out) (by rw [← HYS.out]; exact HRD'.out.ext HX.out)).mono ?_
        rintro e w3 ⟨u, rfl, hown, hext⟩
        go_wp2
        go_ret2
        exact ⟨_, rfl, hown.mono HX.out.size, HX.out.trans hext⟩
      · have G2 : Hid (mulCode xs ys = 2) := Lib.hid (by simp [mulCode, hv, hv', ← HN.out, ← HM.out, he])
        have G : Hid (mulOut xs ys = []) := Lib.hid (by simp [mulOut, hv, hv', ← HN.out, ← HM.out, he])
        have hne : ((N : Int) != (M : Int)) = true := by rw [bne_iff_ne]; omega
        clear hv hv' he
        go_enter Try.func21, Try.ntmps21
        go_wp2_with fail
        refine (s_l04Ok _ xs _ HRD.out  ).mono ?_
        rintro e w1 ⟨rfl, hd⟩
        rw [HV.out]
        go_wp2_with fail
        refine (s_l04Ok _ ys _ (HRD'.out.ext hd.ext)  ).mono ?_
        rintro e w2 ⟨rfl, hd2⟩
        rw [HV'.out]
        go_wp2
        go_ret2
        exact ⟨_, by rw [G2.out]; rfl, by rw [G.out]; exact OwnV.nil _ _ _, hd.ext.trans hd2.ext⟩
theorem l_Compose (w : World) (v0 : Value) (xs0 : List Int) (h0 : Rd w v0 xs0) (v1 : Value) (xs1 : List Int) (h1 : Rd w v1 xs1) :
    Calls Try.prog 5 #[v0, v1] w fun e w' => e = .returned (.bool true) ∧ Ext w w' := by
  have r0_0 := h0
  obtain ⟨ad0, cap0, rfl, hc0, hm0, _⟩ := h0
  have r1_0 := h1
  obtain ⟨ad1, cap1, rfl, hc1, hm1, _⟩ := h1
  by_cases hl0 : 1048576 < xs0.length
  · go_enter Try.func5, Try.ntmps5
    go_wp2
    go_ret
    exact ⟨rfl, Ext.refl _⟩
  by_cases hl1 : 1048576 < xs1.length
  · go_enter Try.func5, Try.ntmps5
    go_wp2
    go_ret
    exact ⟨rfl, Ext.refl _⟩
  have hbd := Lib.hid (show (mulOut xs0 xs1).length ≤ 3000000 from mulOut_len xs0 xs1)
  obtain ⟨R, HR⟩ : ∃ R : List Int, Hid (R = mulOut xs0 xs1) := ⟨_, Lib.hid rfl⟩
  have hb : R.length ≤ 3000000 := by rw [HR.out]; exact hbd.out
  clear hbd
  have X0 : Ext w w := Ext.refl w
  go_enter Try.func5, Try.ntmps5
  go_wp2_with fail
  refine (l_toInt64S _ xs0 _ (by omega) r0_0).mono ?_
  rintro e w1 ⟨u_s0, rfl, s0_1, x1⟩
  have z1 := x1.size
  have X1 : Ext w w1 := X0.trans x1
  have r0_1 := r0_0.ext X1
  have r1_1 := r1_0.ext X1
  go_wp2_with fail
  refine (l_toInt64S _ xs1 _ (by omega) r1_1).mono ?_
  rintro e w2 ⟨u_s1, rfl, s1_2, x2⟩
  have z2 := x2.size
  have X2 : Ext w w2 := X1.trans x2
  have s0_2 := s0_1.ext x2
  have r0_2 := r0_0.ext X2
  have r1_2 := r1_0.ext X2
  go_wp2_with fail
  refine (s_Compose _ xs0 _ xs1 _ s0_2.rd s1_2.rd (by omega) (by omega)).mono ?_
  rintro e w3 ⟨u_wt, rfl, wt_3, x3⟩
  rw [← HR.out] at wt_3
  have z3 := x3.size
  have X3 : Ext w w3 := X2.trans x3
  have s0_3 := s0_2.ext x3
  have s1_3 := s1_2.ext x3
  have r0_3 := r0_0.ext X3
  have r1_3 := r1_0.ext X3
  go_wp2_with fail
  refine (l_toInt64S _ xs0 _ (by omega) r0_3).mono ?_
  rintro e w4 ⟨u_x0x, rfl, x0x_4, x4⟩
  have z4 := x4.size
  have X4 : Ext w w4 := X3.trans x4
  have s0_4 := s0_3.ext x4
  have s1_4 := s1_3.ext x4
  have wt_4 := wt_3.ext x4
  have r0_4 := r0_0.ext X4
  have r1_4 := r1_0.ext X4
  go_wp2_with fail
  refine (l_toInt64S _ xs1 _ (by omega) r1_4).mono ?_
  rintro e w5 ⟨u_x1x, rfl, x1x_5, x5⟩
  have z5 := x5.size
  have X5 : Ext w w5 := X4.trans x5
  have s0_5 := s0_4.ext x5
  have s1_5 := s1_4.ext x5
  have wt_5 := wt_4.ext x5
  have x0x_5 := x0x_4.ext x5
  have r0_5 := r0_0.ext X5
  have r1_5 := r1_0.ext X5
  go_wp2_with fail
  refine (i_Compose _ xs0 _ xs1 _ x0x_5.rd x1x_5.rd (by omega) (by omega)).mono ?_
  rintro e w6 ⟨u_gt, rfl, gt_6, x6⟩
  rw [← HR.out] at gt_6
  have z6 := x6.size
  have X6 : Ext w w6 := X5.trans x6
  have s0_6 := s0_5.ext x6
  have s1_6 := s1_5.ext x6
  have wt_6 := wt_5.ext x6
  have x0x_6 := x0x_5.ext x6
  have x1x_6 := x1x_5.ext x6
  have r0_6 := r0_0.ext X6
  have r1_6 := r1_0.ext X6
  go_wp2_with fail
  refine (l_eqInt64S_t _ _ R _ gt_6.rd wt_6.rd).mono ?_
  rintro e w7 ⟨rfl, d7⟩
  have x7 := d7.ext
  have z7 := x7.size
  have X7 : Ext w w7 := X6.trans x7
  have s0_7 := s0_6.ext x7
  have s1_7 := s1_6.ext x7
  have wt_7 := wt_6.ext x7
  have x0x_7 := x0x_6.ext x7
  have x1x_7 := x1x_6.ext x7
  have gt_7 := gt_6.ext x7
  have r0_7 := r0_0.ext X7
  have r1_7 := r1_0.ext X7
  go_wp2_with fail
  refine (l_toInt64S _ xs0 _ (by omega) r0_7).mono ?_
  rintro e w8 ⟨u_t0, rfl, t0_8, x8⟩
  have z8 := x8.size
  have X8 : Ext w w8 := X7.trans x8
  have s0_8 := s0_7.ext x8
  have s1_8 := s1_7.ext x8
  have wt_8 := wt_7.ext x8
  have x0x_8 := x0x_7.ext x8
  have x1x_8 := x1x_7.ext x8
  have gt_8 := gt_7.ext x8
  have r0_8 := r0_0.ext X8
  have r1_8 := r1_0.ext X8
  go_wp2_with fail
  refine (l_eqInt64S_t _ _ xs0 _ x0x_8.rd t0_8.rd).mono ?_
  rintro e w9 ⟨rfl, d9⟩
  have x9 := d9.ext
  have z9 := x9.size
  have X9 : Ext w w9 := X8.trans x9
  have s0_9 := s0_8.ext x9
  have s1_9 := s1_8.ext x9
  have wt_9 := wt_8.ext x9
  have x0x_9 := x0x_8.ext x9
  have x1x_9 := x1x_8.ext x9
  have gt_9 := gt_8.ext x9
  have t0_9 := t0_8.ext x9
  have r0_9 := r0_0.ext X9
  have r1_9 := r1_0.ext X9
  go_wp2_with fail
  refine (l_toInt64S _ xs1 _ (by omega) r1_9).mono ?_
  rintro e w10 ⟨u_t1, rfl, t1_10, x10⟩
  have z10 := x10.size
  have X10 : Ext w w10 := X9.trans x10
  have s0_10 := s0_9.ext x10
  have s1_10 := s1_9.ext x10
  have wt_10 := wt_9.ext x10
  have x0x_10 := x0x_9.ext x10
  have x1x_10 := x1x_9.ext x10
  have gt_10 := gt_9.ext x10
  have t0_10 := t0_9.ext x10
  have r0_10 := r0_0.ext X10
  have r1_10 := r1_0.ext X10
  go_wp2_with fail
  refine (l_eqInt64S_t _ _ xs1 _ x1x_10.rd t1_10.rd).mono ?_
  rintro e w11 ⟨rfl, d11⟩
  have x11 := d11.ext
  have z11 := x11.size
  have X11 : Ext w w11 := X10.trans x11
  have s0_11 := s0_10.ext x11
  have s1_11 := s1_10.ext x11
  have wt_11 := wt_10.ext x11
  have x0x_11 := x0x_10.ext x11
  have x1x_11 := x1x_10.ext x11
  have gt_11 := gt_10.ext x11
  have t0_11 := t0_10.ext x11
  have t1_11 := t1_10.ext x11
  have r0_11 := r0_0.ext X11
  have r1_11 := r1_0.ext X11
  go_wp2_with fail
  refine (l_markInt64S _ (1) xs0 _ _ (by omega) x0x_11).mono ?_
  rintro e w12 ⟨rfl, x0x_12, g12⟩
  have z12 := g12.size
  have X12 : Ext w w12 := Below.grown X11 g12 X11.size (fun j hj => Nat.le_trans (X3.size) (x0x_11.lt j hj).1)
  have s0_12 := s0_11.kept g12 (s0_1.apart x0x_11 (by omega))
  have s1_12 := s1_11.kept g12 (s1_2.apart x0x_11 (by omega))
  have wt_12 := wt_11.kept g12 (wt_3.apart x0x_11 (by omega))
  have x1x_12 := x1x_11.kept g12 (x0x_4.apart' x1x_11 (by omega))
  have gt_12 := gt_11.kept g12 (x0x_4.apart' gt_11 (by omega))
  have t0_12 := t0_11.kept g12 (x0x_4.apart' t0_11 (by omega))
  have t1_12 := t1_11.kept g12 (x0x_4.apart' t1_11 (by omega))
  have r0_12 := r0_0.ext X12
  have r1_12 := r1_0.ext X12
  go_wp2_with fail
  refine (l_markInt64S _ (1 + xs0.length) xs1 _ _ (by omega) x1x_12).mono ?_
  rintro e w13 ⟨rfl, x1x_13, g13⟩
  have z13 := g13.size
  have X13 : Ext w w13 := Below.grown X12 g13 X12.size (fun j hj => Nat.le_trans (X4.size) (x1x_12.lt j hj).1)
  have s0_13 := s0_12.kept g13 (s0_1.apart x1x_12 (by omega))
  have s1_13 := s1_12.kept g13 (s1_2.apart x1x_12 (by omega))
  have wt_13 := wt_12.kept g13 (wt_3.apart x1x_12 (by omega))
  have x0x_13 := x0x_12.kept g13 (x0x_4.apart x1x_12 (by omega))
  have gt_13 := gt_12.kept g13 (x1x_5.apart' gt_12 (by omega))
  have t0_13 := t0_12.kept g13 (x1x_5.apart' t0_12 (by omega))
  have t1_13 := t1_12.kept g13 (x1x_5.apart' t1_12 (by omega))
  have r0_13 := r0_0.ext X13
  have r1_13 := r1_0.ext X13
  go_wp2_with fail
  refine (l_eqInt64S_t _ _ R _ gt_13.rd wt_13.rd).mono ?_
  rintro e w14 ⟨rfl, d14⟩
  have x14 := d14.ext
  have z14 := x14.size
  have X14 : Ext w w14 := X13.trans x14
  have s0_14 := s0_13.ext x14
  have s1_14 := s1_13.ext x14
  have wt_14 := wt_13.ext x14
  have x0x_14 := x0x_13.ext x14
  have x1x_14 := x1x_13.ext x14
  have gt_14 := gt_13.ext x14
  have t0_14 := t0_13.ext x14
  have t1_14 := t1_13.ext x14
  have r0_14 := r0_0.ext X14
  have r1_14 := r1_0.ext X14
  go_wp2_with fail
  refine (l_markInt64S _ (1) R _ _ (by omega) gt_14).mono ?_
  rintro e w15 ⟨rfl, gt_15, g15⟩
  have z15 := g15.size
  have X15 : Ext w w15 := Below.grown X14 g15 X14.size (fun j hj => Nat.le_trans (X5.size) (gt_14.lt j hj).1)
  have s0_15 := s0_14.kept g15 (s0_1.apart gt_14 (by omega))
  have s1_15 := s1_14.kept g15 (s1_2.apart gt_14 (by omega))
  have wt_15 := wt_14.kept g15 (wt_3.apart gt_14 (by omega))
  have x0x_15 := x0x_14.kept g15 (x0x_4.apart gt_14 (by omega))
  have x1x_15 := x1x_14.kept g15 (x1x_5.apart gt_14 (by omega))
  have t0_15 := t0_14.kept g15 (gt_6.apart' t0_14 (by omega))
  have t1_15 := t1_14.kept g15 (gt_6.apart' t1_14 (by omega))
  have r0_15 := r0_0.ext X15
  have r1_15 := r1_0.ext X15
  go_wp2_with fail
  refine (l_heldInt64S _ 1 R.length _ (by omega) gt_15.rd).mono ?_
  rintro e _ ⟨rfl, rfl⟩
  go_wp2_with fail
  refine (l_toInt64S _ xs0 _ (by omega) r0_15).mono ?_
  rintro e w16 ⟨u_y0, rfl, y0_16, x16⟩
  have z16 := x16.size
  have X16 : Ext w w16 := X15.trans x16
  have s0_16 := s0_15.ext x16
  have s1_16 := s1_15.ext x16
  have wt_16 := wt_15.ext x16
  have x0x_16 := x0x_15.ext x16
  have x1x_16 := x1x_15.ext x16
  have gt_16 := gt_15.ext x16
  have t0_16 := t0_15.ext x16
  have t1_16 := t1_15.ext x16
  have r0_16 := r0_0.ext X16
  have r1_16 := r1_0.ext X16
  go_wp2_with fail
  refine (l_toInt64S _ xs1 _ (by omega) r1_16).mono ?_
  rintro e w17 ⟨u_y1, rfl, y1_17, x17⟩
  have z17 := x17.size
  have X17 : Ext w w17 := X16.trans x17
  have s0_17 := s0_16.ext x17
  have s1_17 := s1_16.ext x17
  have wt_17 := wt_16.ext x17
  have x0x_17 := x0x_16.ext x17
  have x1x_17 := x1x_16.ext x17
  have gt_17 := gt_16.ext x17
  have t0_17 := t0_16.ext x17
  have t1_17 := t1_16.ext x17
  have y0_17 := y0_16.ext x17
  have r0_17 := r0_0.ext X17
  have r1_17 := r1_0.ext X17
  go_wp2_with fail
  refine (i_Compose _ xs0 _ xs1 _ y0_17.rd y1_17.rd (by omega) (by omega)).mono ?_
  rintro e w18 ⟨u_ht, rfl, ht_18, x18⟩
  rw [← HR.out] at ht_18
  have z18 := x18.size
  have X18 : Ext w w18 := X17.trans x18
  have s0_18 := s0_17.ext x18
  have s1_18 := s1_17.ext x18
  have wt_18 := wt_17.ext x18
  have x0x_18 := x0x_17.ext x18
  have x1x_18 := x1x_17.ext x18
  have gt_18 := gt_17.ext x18
  have t0_18 := t0_17.ext x18
  have t1_18 := t1_17.ext x18
  have y0_18 := y0_17.ext x18
  have y1_18 := y1_17.ext x18
  have r0_18 := r0_0.ext X18
  have r1_18 := r1_0.ext X18
  go_wp2_with fail
  refine (l_eqInt64S_t _ _ R _ ht_18.rd wt_18.rd).mono ?_
  rintro e w19 ⟨rfl, d19⟩
  have x19 := d19.ext
  have z19 := x19.size
  have X19 : Ext w w19 := X18.trans x19
  have s0_19 := s0_18.ext x19
  have s1_19 := s1_18.ext x19
  have wt_19 := wt_18.ext x19
  have x0x_19 := x0x_18.ext x19
  have x1x_19 := x1x_18.ext x19
  have gt_19 := gt_18.ext x19
  have t0_19 := t0_18.ext x19
  have t1_19 := t1_18.ext x19
  have y0_19 := y0_18.ext x19
  have y1_19 := y1_18.ext x19
  have ht_19 := ht_18.ext x19
  have r0_19 := r0_0.ext X19
  have r1_19 := r1_0.ext X19
  go_wp2_with fail
  refine (l_heldInt64S _ 1 R.length _ (by omega) gt_19.rd).mono ?_
  rintro e _ ⟨rfl, rfl⟩
  go_wp2
  go_ret
  exact ⟨rfl, X19⟩

end Go.Proofs.Ytijoeknaoegncaa
