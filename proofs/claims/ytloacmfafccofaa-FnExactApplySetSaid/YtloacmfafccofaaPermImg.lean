/- ApplySet: the walks of the program and of the reference, and the law. No condition. -/
import Derived.Test.YtloacmfafccofaaPermMul
import Derived.Test.YtloacmfafccofaaSetsS
namespace Go.Proofs.Ytloacmfafccofaa
open Go.RowKit

def imgL (ns : List Nat) (ss : List Int) : List Int := ss.map fun a => ((ns.getD a.toNat 0 : Nat) : Int)
theorem imgL_len (ns : List Nat) (ss : List Int) : (imgL ns ss).length = ss.length := by simp [imgL]
theorem imgL_get {ns : List Nat} {ss : List Int} {k x : Nat} (hk : k < ss.length) (hs : ss[k] = (x : Int)) (hx : x < ns.length) : (imgL ns ss)[k]'(by rw [imgL_len]; exact hk) = (ns[x] : Nat) := by
  simp [imgL, hs, hx]
theorem imgL_nodup {ns : List Nat} (hp : IsP ns) {ss : List Int} (h1 : Rises ss) (h2 : ∀ x ∈ ss, 0 ≤ x ∧ x < ns.length) : (imgL ns ss).Nodup := by
  unfold imgL
  rw [List.Nodup, List.pairwise_map]
  have h3 : ss.Nodup := rises_nodup h1
  refine List.Pairwise.imp_of_mem (R := fun a b => a ≠ b) (fun {a b} ha hb hne e => ?_) h3
  have ha' := h2 a ha
  have hb' := h2 b hb
  have e' : ns.getD a.toNat 0 = ns.getD b.toNat 0 := by exact_mod_cast e
  rw [List.getD, List.getD, List.getElem?_eq_getElem (show a.toNat < ns.length by omega), List.getElem?_eq_getElem (show b.toNat < ns.length by omega)] at e'
  simp only [Option.getD_some] at e'
  rcases Nat.lt_trichotomy a.toNat b.toNat with h | h | h
  · exact List.pairwise_iff_getElem.1 hp.2.2 _ _ (by omega) (by omega) h e'
  · exact hne (by omega)
  · exact List.pairwise_iff_getElem.1 hp.2.2 _ _ (by omega) (by omega) h e'.symm
/-- Sorted, or put one by one. -/
theorem srt_putAll {l : List Int} (h : l.Nodup) : srt l = putAll [] l := by
  obtain ⟨h1, h2⟩ := putAll_spec (xs := []) (ys := l) List.Pairwise.nil
  refine rises_ext (srt_rises h) h1 fun x => ?_
  rw [(srt_perm l).mem_iff, h2]
  simp
set_option maxHeartbeats 400000 in
theorem i_image (v v' : Value) (ns : List Nat) (ss : List Int) (w : World) (hp : IsP ns) (h : Rd w v (casN ns)) (h' : Rd w v' ss) (h2 : ∀ x ∈ ss, 0 ≤ x ∧ x < ns.length) (hl : ss.length ≤ 32) : Calls Try.prog 57 #[v, v'] w (RetInts w (srt (imgL ns ss))) := by
  obtain ⟨hp1, hp2, _⟩ := hp
  have HP2 := Lib.hid hp2
  obtain ⟨a, n, cap, rfl⟩ : ∃ a n cap, v = .slice a n cap := by obtain ⟨a, cap, h1, _⟩ := h; exact ⟨_, _, _, h1⟩
  obtain ⟨rfl, hc, hm, HC⟩ := rd_cells h
  obtain ⟨a', cap', rfl, hc', hm', hr'⟩ := h'
  obtain ⟨M, HM⟩ : ∃ M, Hid (M = ss.length) := ⟨_, Lib.hid rfl⟩
  have HC' : Hid (0 < M → ∃ b o, a' = some ⟨b, o, none⟩ ∧ b < w.heap.size ∧ ∀ i (h : i < ss.length), w.cell? ⟨b, o + i, none⟩ = some (.int .i64 ss[i])) := Lib.hid (fun hk => hr' (by rw [← HM.out]; exact hk))
  have HS2 := Lib.hid h2
  obtain ⟨R, HR⟩ : ∃ R, Hid (R = imgL ns ss) := ⟨_, Lib.hid rfl⟩
  clear h hr' hp2 h2
  rw [← HM.out] at hc' hl ⊢
  rw [← HR.out]
  have HRL : Hid (R.length = M) := Lib.hid (by rw [HR.out, imgL_len, HM.out])
  go_enter Try.func57, Try.ntmps57
  go_wp2
  go_loopw [5, 10] (fun v i wr => ∃ k : Nat, k ≤ M ∧ i = .int .i64 k ∧ Hid (Own wr w.heap.size v (R.take k)) ∧ Hid (Ext w wr)) (fun _ i _ => M - (intOf i).toNat)
  case atStart => exact ⟨0, by omega, rfl, Lib.hid (by rw [List.take_zero]; exact OwnV.nil _ _ _), Lib.hid (Ext.refl _)⟩
  case round =>
    obtain ⟨k, hk, rfl, hown, hext⟩ := hrel
    by_cases hlt : k < M
    · have hlt' : k < ss.length := by rw [← HM.out]; exact hlt
      obtain ⟨b2, o2, rfl, hb2, hall2⟩ := HC'.out (by omega)
      have hx := (hext.out.cell (p := ⟨b2, o2 + k, none⟩) hb2).trans (hall2 k hlt')
      obtain ⟨x, HX⟩ : ∃ x : Nat, Hid (ss[k] = (x : Int)) := ⟨ss[k].toNat, Lib.hid (by have := HS2.out _ (List.getElem_mem hlt'); omega)⟩
      have hxn : x < ns.length := by have := HS2.out _ (List.getElem_mem hlt'); rw [HX.out] at this; omega
      rw [HX.out] at hx
      obtain ⟨b, o, rfl, hb, hall⟩ := HC.out (by omega)
      have hy := (hext.out.cell (p := ⟨b, o + x, none⟩) hb).trans (hall x hxn)
      obtain ⟨y, HY⟩ : ∃ y, Hid (y = ns[x]) := ⟨_, Lib.hid rfl⟩
      have HT : Hid (R.take (k + 1) = R.take k ++ [(y : Int)]) := Lib.hid (by
        have h1 : k < R.length := by rw [HRL.out]; exact hlt
        rw [List.take_succ_eq_append_getElem h1]
        congr 2
        simp only [HR.out]
        rw [imgL_get hlt' HX.out hxn, HY.out])
      rw [← HY.out] at hy
      have hown1 := hown.out
      have hz := hext.out.size
      have hlen : (R.take k).length ≤ 32 := by rw [List.length_take]; omega
      clear hall hall2
      go_wp2_with (at_builtin; refine wp_app1 _ rfl _ _ rfl _ _ (R.take k) rfl hown1 (y : Int) rfl (by omega) hz ?_; intro v2 w' hown3 hgr)
      have HO : Hid (Own w' w.heap.size v2 (R.take (k + 1))) := Lib.hid (by rw [HT.out]; exact hown3)
      have HE : Hid (Ext w w') := Lib.hid (ext_app (e := 2) hext.out hown1 hgr)
      clear hown3 hgr hown1
      go_wp2
      exact ⟨⟨k + 1, by omega, by go_num, HO, HE⟩, by simp only [intOf]; omega⟩
    · obtain rfl : k = M := by omega
      have HRT : Hid (R.take k = R) := Lib.hid (List.take_of_length_le (by rw [HRL.out]; omega))
      have HO : Hid (Own wr w.heap.size _ R) := Lib.hid (by have := hown.out; rw [HRT.out] at this; exact this)
      clear hown
      go_wp2_with fail
      refine (c_Sort _ R _ _ (by rw [HRL.out]; omega) HO.out).mono ?_
      rintro e w2 ⟨rfl, hown2, hgr2⟩
      go_wp2
      go_ret
      exact ⟨_, rfl, hown2, ext_app (e := 2) hext.out HO.out hgr2⟩
set_option maxHeartbeats 400000 in
theorem s_image (v v' : Value) (ns : List Nat) (ss : List Int) (w : World) (hp : IsP ns) (h : Rd w v (casN ns)) (h' : Rd w v' ss) (h2 : ∀ x ∈ ss, 0 ≤ x ∧ x < ns.length) (hl : ss.length ≤ 32) : Calls Try.prog 55 #[v, v'] w (RetInts w (putAll [] (imgL ns ss))) := by
  obtain ⟨hp1, hp2, _⟩ := hp
  have HP2 := Lib.hid hp2
  obtain ⟨a, n, cap, rfl⟩ : ∃ a n cap, v = .slice a n cap := by obtain ⟨a, cap, h1, _⟩ := h; exact ⟨_, _, _, h1⟩
  obtain ⟨rfl, hc, hm, HC⟩ := rd_cells h
  obtain ⟨a', cap', rfl, hc', hm', hr'⟩ := h'
  obtain ⟨M, HM⟩ : ∃ M, Hid (M = ss.length) := ⟨_, Lib.hid rfl⟩
  have HC' : Hid (0 < M → ∃ b o, a' = some ⟨b, o, none⟩ ∧ b < w.heap.size ∧ ∀ i (h : i < ss.length), w.cell? ⟨b, o + i, none⟩ = some (.int .i64 ss[i])) := Lib.hid (fun hk => hr' (by rw [← HM.out]; exact hk))
  have HS2 := Lib.hid h2
  obtain ⟨R, HR⟩ : ∃ R, Hid (R = imgL ns ss) := ⟨_, Lib.hid rfl⟩
  clear h hr' hp2 h2
  rw [← HM.out] at hc' hl ⊢
  rw [← HR.out]
  have HRL : Hid (R.length = M) := Lib.hid (by rw [HR.out, imgL_len, HM.out])
  go_enter Try.func55, Try.ntmps55
  go_wp2
  go_loopw [5, 6] (fun v i wr => ∃ k : Nat, k ≤ M ∧ i = .int .i64 k ∧ Hid (Own wr w.heap.size v (putAll [] (R.take k))) ∧ Hid (Ext w wr)) (fun _ i _ => M - (intOf i).toNat)
  case atStart => exact ⟨0, by omega, rfl, Lib.hid (by rw [List.take_zero]; exact OwnV.empty _ _), Lib.hid (ext_alloc _ _)⟩
  case round =>
    obtain ⟨k, hk, rfl, hown, hext⟩ := hrel
    by_cases hlt : k < M
    · have hlt' : k < ss.length := by rw [← HM.out]; exact hlt
      obtain ⟨b2, o2, rfl, hb2, hall2⟩ := HC'.out (by omega)
      have hx := (hext.out.cell (p := ⟨b2, o2 + k, none⟩) hb2).trans (hall2 k hlt')
      obtain ⟨x, HX⟩ : ∃ x : Nat, Hid (ss[k] = (x : Int)) := ⟨ss[k].toNat, Lib.hid (by have := HS2.out _ (List.getElem_mem hlt'); omega)⟩
      have hxn : x < ns.length := by have := HS2.out _ (List.getElem_mem hlt'); rw [HX.out] at this; omega
      rw [HX.out] at hx
      obtain ⟨b, o, rfl, hb, hall⟩ := HC.out (by omega)
      have hy := (hext.out.cell (p := ⟨b, o + x, none⟩) hb).trans (hall x hxn)
      obtain ⟨y, HY⟩ : ∃ y, Hid (y = ns[x]) := ⟨_, Lib.hid rfl⟩
      have HT : Hid (putAll [] (R.take (k + 1)) = putL (y : Int) false (putAll [] (R.take k))) := Lib.hid (by
        have h1 : k < R.length := by rw [HRL.out]; exact hlt
        rw [List.take_succ_eq_append_getElem h1, putAll_snoc]
        congr 1
        simp only [HR.out]
        rw [imgL_get hlt' HX.out hxn, HY.out])
      rw [← HY.out] at hy
      have HOW := Lib.hid hown.out
      have HLE : Hid ((putAll [] (R.take k)).length ≤ 32) := Lib.hid (by have := putAll_len (R.take k) []; rw [List.length_take] at this; simp at this; omega)
      clear hall hall2 hown
      go_wp2_with fail
      refine (s_l00Put _ (putAll [] (R.take k)) (y : Int) _ (by have := HLE.out; omega) HOW.out.rd).mono ?_
      rintro e w2 ⟨v2, rfl, hown2, hext2⟩
      have HO2 : Hid (Own w2 w.heap.size v2 (putAll [] (R.take (k + 1)))) := Lib.hid (by rw [HT.out]; exact hown2.mono hext.out.size)
      have HE2 := Lib.hid (hext.out.trans hext2)
      clear hown2 hext2
      go_wp2
      exact ⟨⟨k + 1, by omega, by go_num, HO2, HE2⟩, by simp only [intOf]; omega⟩
    · obtain rfl : k = M := by omega
      have HRT : Hid (R.take k = R) := Lib.hid (List.take_of_length_le (by rw [HRL.out]; omega))
      go_wp2
      go_ret
      exact ⟨_, rfl, by have := hown.out; rw [HRT.out] at this; exact this, hext.out⟩
def setOut (xs ss : List Int) : List Int := if validP xs then (if validB ss xs.length then srt (imgL (xs.map Int.toNat) ss) else []) else []
def setCode (xs ss : List Int) : Int := if validP xs then (if validB ss xs.length then 0 else 2) else 1
theorem setOut_len (xs ss : List Int) : (setOut xs ss).length ≤ 3000000 := by
  unfold setOut
  cases hv : validP xs
  · simp
  · cases h : validB ss xs.length
    · simp
    · have := valid_len h
      rw [if_pos rfl, if_pos rfl, srt_len, imgL_len]; omega
set_option maxHeartbeats 400000 in
theorem i_ApplySet (v : Value) (xs : List Int) (v' : Value) (ss : List Int) (w : World) (h : Rd w v xs) (h' : Rd w v' ss) (h1n : xs.length ≤ 100000000) : Calls Try.prog 28 #[v, v'] w (RetIntsI w (setOut xs ss) (setCode xs ss)) := by
  have HRD := Lib.hid h
  have HRD' := Lib.hid h'
  have _h1 := h1n
  obtain ⟨a, cap, rfl, hc, hm, _⟩ := h
  obtain ⟨N, HN⟩ : ∃ N, Hid (N = xs.length) := ⟨_, Lib.hid rfl⟩
  rw [← HN.out] at hc HRD ⊢
  clear h'
  cases hv : validP xs
  · have G : Hid (setOut xs ss = []) := Lib.hid (by simp [setOut, hv])
    have G2 : Hid (setCode xs ss = 1) := Lib.hid (by simp [setCode, hv])
    go_enter Try.func28, Try.ntmps28
    go_wp2_with fail
    refine (i_ValidPermutation _ xs _ HRD.out h1n).mono ?_
    rintro e w1 ⟨rfl, hd⟩
    rw [hv]
    go_wp2
    go_ret2
    exact ⟨_, by rw [G2.out]; rfl, by rw [G.out]; exact OwnV.nil _ _ _, hd⟩
  · have HV := Lib.hid hv
    cases hs : validB ss N
    · have G : Hid (setOut xs ss = []) := Lib.hid (by rw [setOut, hv, if_pos rfl, ← HN.out, hs]; rfl)
      have G2 : Hid (setCode xs ss = 2) := Lib.hid (by rw [setCode, hv, if_pos rfl, ← HN.out, hs]; rfl)
      have HSS := Lib.hid hs
      clear hv hs
      go_enter Try.func28, Try.ntmps28
      go_wp2_with fail
      refine (i_ValidPermutation _ xs _ HRD.out h1n).mono ?_
      rintro e w1 ⟨rfl, hd⟩
      rw [HV.out]
      have HX := Lib.hid hd
      clear hd
      go_wp2_with fail
      refine (i_size _ _ _ _ (by omega)).mono ?_
      rintro e w1 ⟨rfl, rfl⟩
      go_wp2_with fail
      refine (i_ValidSet _ ss _ _ (HRD'.out.ext HX.out)).mono ?_
      rintro e _ ⟨rfl, rfl⟩
      have HX2 := HX
      rw [HSS.out]
      go_wp2
      go_ret2
      exact ⟨_, by rw [G2.out]; rfl, by rw [G.out]; exact OwnV.nil _ _ _, HX2.out⟩
    · obtain ⟨ns, hxs, hp⟩ := isP_of_valid hv
      obtain ⟨r1, r2⟩ := valid_rises hs
      have HL32 := Lib.hid (valid_len hs)
      have HK : Hid (N = ns.length) := Lib.hid (by rw [HN.out, hxs, List.length_map])
      have HR2 : Hid (∀ x ∈ ss, 0 ≤ x ∧ x < ns.length) := Lib.hid (by rw [← HK.out]; exact r2)
      have G : Hid (setOut xs ss = srt (imgL ns ss)) := Lib.hid (by rw [setOut, hv, if_pos rfl, ← HN.out, hs, if_pos rfl, hxs, casN_toNat])
      have G3 : Hid (setOut xs ss = putAll [] (imgL ns ss)) := Lib.hid (by rw [G.out, srt_putAll (imgL_nodup hp r1 HR2.out)])
      have G2 : Hid (setCode xs ss = 0) := Lib.hid (by rw [setCode, hv, if_pos rfl, ← HN.out, hs]; rfl)
      have HP := Lib.hid hp
      have HXS := Lib.hid hxs
      have HSS := Lib.hid hs
      rw [G2.out]
      clear hv hs hp hxs r1 r2
      go_enter Try.func28, Try.ntmps28
      go_wp2_with fail
      refine (i_ValidPermutation _ xs _ HRD.out h1n).mono ?_
      rintro e w1 ⟨rfl, hd⟩
      rw [HV.out]
      have HX := Lib.hid hd
      clear hd
      go_wp2_with fail
      refine (i_size _ _ _ _ (by omega)).mono ?_
      rintro e w1 ⟨rfl, rfl⟩
      go_wp2_with fail
      refine (i_ValidSet _ ss _ _ (HRD'.out.ext HX.out)).mono ?_
      rintro e _ ⟨rfl, rfl⟩
      have HX2 := HX
      rw [HSS.out]
      go_wp2_with fail
      refine (i_image _ _ ns ss _ HP.out (by rw [← HXS.out]; exact HRD.out.ext HX2.out) (HRD'.out.ext HX2.out) HR2.out HL32.out).mono ?_
      rintro e w3 ⟨u, rfl, hown, hext⟩
      go_wp2
      go_ret2
      exact ⟨_, rfl, by rw [G.out]; exact hown.mono HX2.out.size, HX2.out.trans hext⟩
set_option maxHeartbeats 400000 in
theorem s_ApplySet (v : Value) (xs : List Int) (v' : Value) (ss : List Int) (w : World) (h : Rd w v xs) (h' : Rd w v' ss) (h1n : xs.length ≤ 100000000) : Calls Try.prog 27 #[v, v'] w (RetIntsI w (setOut xs ss) (setCode xs ss)) := by
  have HRD := Lib.hid h
  have HRD' := Lib.hid h'
  have _h1 := h1n
  obtain ⟨a, cap, rfl, hc, hm, _⟩ := h
  obtain ⟨N, HN⟩ : ∃ N, Hid (N = xs.length) := ⟨_, Lib.hid rfl⟩
  rw [← HN.out] at hc HRD ⊢
  clear h'
  cases hv : validP xs
  · have G : Hid (setOut xs ss = []) := Lib.hid (by simp [setOut, hv])
    have G2 : Hid (setCode xs ss = 1) := Lib.hid (by simp [setCode, hv])
    go_enter Try.func27, Try.ntmps27
    go_wp2_with fail
    refine (s_l04Ok _ xs _ HRD.out  ).mono ?_
    rintro e w1 ⟨rfl, hd⟩
    rw [hv]
    go_wp2
    go_ret2
    exact ⟨_, by rw [G2.out]; rfl, by rw [G.out]; exact OwnV.nil _ _ _, hd.ext⟩
  · have HV := Lib.hid hv
    cases hs : validB ss N
    · have G : Hid (setOut xs ss = []) := Lib.hid (by rw [setOut, hv, if_pos rfl, ← HN.out, hs]; rfl)
      have G2 : Hid (setCode xs ss = 2) := Lib.hid (by rw [setCode, hv, if_pos rfl, ← HN.out, hs]; rfl)
      have HSS := Lib.hid hs
      clear hv hs
      go_enter Try.func27, Try.ntmps27
      go_wp2_with fail
      refine (s_l04Ok _ xs _ HRD.out  ).mono ?_
      rintro e w1 ⟨rfl, hd⟩
      rw [HV.out]
      have HX := Lib.hid hd.ext
      clear hd
      skip
      go_wp2_with fail
      refine (s_ValidSet _ ss _ _ (HRD'.out.ext HX.out)).mono ?_
      rintro e w2 ⟨rfl, hd2⟩
      have HX2 := Lib.hid (HX.out.drawn hd2)
      clear hd2
      rw [HSS.out]
      go_wp2
      go_ret2
      exact ⟨_, by rw [G2.out]; rfl, by rw [G.out]; exact OwnV.nil _ _ _, HX2.out⟩
    · obtain ⟨ns, hxs, hp⟩ := isP_of_valid hv
      obtain ⟨r1, r2⟩ := valid_rises hs
      have HL32 := Lib.hid (valid_len hs)
      have HK : Hid (N = ns.length) := Lib.hid (by rw [HN.out, hxs, List.length_map])
      have HR2 : Hid (∀ x ∈ ss, 0 ≤ x ∧ x < ns.length) := Lib.hid (by rw [← HK.out]; exact r2)
      have G : Hid (setOut xs ss = srt (imgL ns ss)) := Lib.hid (by rw [setOut, hv, if_pos rfl, ← HN.out, hs, if_pos rfl, hxs, casN_toNat])
      have G3 : Hid (setOut xs ss = putAll [] (imgL ns ss)) := Lib.hid (by rw [G.out, srt_putAll (imgL_nodup hp r1 HR2.out)])
      have G2 : Hid (setCode xs ss = 0) := Lib.hid (by rw [setCode, hv, if_pos rfl, ← HN.out, hs]; rfl)
      have HP := Lib.hid hp
      have HXS := Lib.hid hxs
      have HSS := Lib.hid hs
      rw [G2.out]
      clear hv hs hp hxs r1 r2
      go_enter Try.func27, Try.ntmps27
      go_wp2_with fail
      refine (s_l04Ok _ xs _ HRD.out  ).mono ?_
      rintro e w1 ⟨rfl, hd⟩
      rw [HV.out]
      have HX := Lib.hid hd.ext
      clear hd
      skip
      go_wp2_with fail
      refine (s_ValidSet _ ss _ _ (HRD'.out.ext HX.out)).mono ?_
      rintro e w2 ⟨rfl, hd2⟩
      have HX2 := Lib.hid (HX.out.drawn hd2)
      clear hd2
      rw [HSS.out]
      go_wp2_with fail
      refine (s_image _ _ ns ss _ HP.out (by rw [← HXS.out]; exact HRD.out.ext HX2.out) (HRD'.out.ext HX2.out) HR2.out HL32.out).mono ?_
      rintro e w3 ⟨u, rfl, hown, hext⟩
      go_wp2
      go_ret2
      exact ⟨_, rfl, by rw [G3.out]; exact hown.mono HX2.out.size, HX2.out.trans hext⟩
theorem l_ApplySet (w : World) (v0 : Value) (xs0 : List Int) (h0 : Rd w v0 xs0) (v1 : Value) (xs1 : List Int) (h1 : Rd w v1 xs1) :
    Calls Try.prog 7 #[v0, v1] w fun e w' => e = .returned (.bool true) ∧ Ext w w' := by
  have r0_0 := h0
  obtain ⟨ad0, cap0, rfl, hc0, hm0, _⟩ := h0
  have r1_0 := h1
  obtain ⟨ad1, cap1, rfl, hc1, hm1, _⟩ := h1
  by_cases hl0 : 1048576 < xs0.length
  · go_enter Try.func7, Try.ntmps7
    go_wp2
    go_ret
    exact ⟨rfl, Ext.refl _⟩
  by_cases hl1 : 1048576 < xs1.length
  · go_enter Try.func7, Try.ntmps7
    go_wp2
    go_ret
    exact ⟨rfl, Ext.refl _⟩
  have hbd := Lib.hid (show (setOut xs0 xs1).length ≤ 3000000 from setOut_len xs0 xs1)
  obtain ⟨R, HR⟩ : ∃ R : List Int, Hid (R = setOut xs0 xs1) := ⟨_, Lib.hid rfl⟩
  have hb : R.length ≤ 3000000 := by rw [HR.out]; exact hbd.out
  clear hbd
  have X0 : Ext w w := Ext.refl w
  go_enter Try.func7, Try.ntmps7
  go_wp2_with fail
  refine (l_toInt64S _ xs0 _ (by omega) r0_0).mono ?_
  rintro e w1 ⟨u_s0, rfl, s0_1, x1⟩
  have z1 := x1.size
  have X1 : Ext w w1 := X0.trans x1
  have r0_1 := r0_0.ext X1
  have r1_1 := r1_0.ext X1
  go_wp2_with fail
  refine (l_toInt64S _ xs1 _ (by omega) r1_1).mono ?_
  rintro e w2 ⟨u_s1, rfl, s1_2, x2⟩
  have z2 := x2.size
  have X2 : Ext w w2 := X1.trans x2
  have s0_2 := s0_1.ext x2
  have r0_2 := r0_0.ext X2
  have r1_2 := r1_0.ext X2
  go_wp2_with fail
  refine (s_ApplySet _ xs0 _ xs1 _ s0_2.rd s1_2.rd (by omega)).mono ?_
  rintro e w3 ⟨u_wt, rfl, wt_3, x3⟩
  rw [← HR.out] at wt_3
  have z3 := x3.size
  have X3 : Ext w w3 := X2.trans x3
  have s0_3 := s0_2.ext x3
  have s1_3 := s1_2.ext x3
  have r0_3 := r0_0.ext X3
  have r1_3 := r1_0.ext X3
  go_wp2_with fail
  refine (l_toInt64S _ xs0 _ (by omega) r0_3).mono ?_
  rintro e w4 ⟨u_x0x, rfl, x0x_4, x4⟩
  have z4 := x4.size
  have X4 : Ext w w4 := X3.trans x4
  have s0_4 := s0_3.ext x4
  have s1_4 := s1_3.ext x4
  have wt_4 := wt_3.ext x4
  have r0_4 := r0_0.ext X4
  have r1_4 := r1_0.ext X4
  go_wp2_with fail
  refine (l_toInt64S _ xs1 _ (by omega) r1_4).mono ?_
  rintro e w5 ⟨u_x1x, rfl, x1x_5, x5⟩
  have z5 := x5.size
  have X5 : Ext w w5 := X4.trans x5
  have s0_5 := s0_4.ext x5
  have s1_5 := s1_4.ext x5
  have wt_5 := wt_4.ext x5
  have x0x_5 := x0x_4.ext x5
  have r0_5 := r0_0.ext X5
  have r1_5 := r1_0.ext X5
  go_wp2_with fail
  refine (i_ApplySet _ xs0 _ xs1 _ x0x_5.rd x1x_5.rd (by omega)).mono ?_
  rintro e w6 ⟨u_gt, rfl, gt_6, x6⟩
  rw [← HR.out] at gt_6
  have z6 := x6.size
  have X6 : Ext w w6 := X5.trans x6
  have s0_6 := s0_5.ext x6
  have s1_6 := s1_5.ext x6
  have wt_6 := wt_5.ext x6
  have x0x_6 := x0x_5.ext x6
  have x1x_6 := x1x_5.ext x6
  have r0_6 := r0_0.ext X6
  have r1_6 := r1_0.ext X6
  go_wp2_with fail
  refine (l_eqInt64S_t _ _ R _ gt_6.rd wt_6.rd).mono ?_
  rintro e w7 ⟨rfl, d7⟩
  have x7 := d7.ext
  have z7 := x7.size
  have X7 : Ext w w7 := X6.trans x7
  have s0_7 := s0_6.ext x7
  have s1_7 := s1_6.ext x7
  have wt_7 := wt_6.ext x7
  have x0x_7 := x0x_6.ext x7
  have x1x_7 := x1x_6.ext x7
  have gt_7 := gt_6.ext x7
  have r0_7 := r0_0.ext X7
  have r1_7 := r1_0.ext X7
  go_wp2_with fail
  refine (l_toInt64S _ xs0 _ (by omega) r0_7).mono ?_
  rintro e w8 ⟨u_t0, rfl, t0_8, x8⟩
  have z8 := x8.size
  have X8 : Ext w w8 := X7.trans x8
  have s0_8 := s0_7.ext x8
  have s1_8 := s1_7.ext x8
  have wt_8 := wt_7.ext x8
  have x0x_8 := x0x_7.ext x8
  have x1x_8 := x1x_7.ext x8
  have gt_8 := gt_7.ext x8
  have r0_8 := r0_0.ext X8
  have r1_8 := r1_0.ext X8
  go_wp2_with fail
  refine (l_eqInt64S_t _ _ xs0 _ x0x_8.rd t0_8.rd).mono ?_
  rintro e w9 ⟨rfl, d9⟩
  have x9 := d9.ext
  have z9 := x9.size
  have X9 : Ext w w9 := X8.trans x9
  have s0_9 := s0_8.ext x9
  have s1_9 := s1_8.ext x9
  have wt_9 := wt_8.ext x9
  have x0x_9 := x0x_8.ext x9
  have x1x_9 := x1x_8.ext x9
  have gt_9 := gt_8.ext x9
  have t0_9 := t0_8.ext x9
  have r0_9 := r0_0.ext X9
  have r1_9 := r1_0.ext X9
  go_wp2_with fail
  refine (l_toInt64S _ xs1 _ (by omega) r1_9).mono ?_
  rintro e w10 ⟨u_t1, rfl, t1_10, x10⟩
  have z10 := x10.size
  have X10 : Ext w w10 := X9.trans x10
  have s0_10 := s0_9.ext x10
  have s1_10 := s1_9.ext x10
  have wt_10 := wt_9.ext x10
  have x0x_10 := x0x_9.ext x10
  have x1x_10 := x1x_9.ext x10
  have gt_10 := gt_9.ext x10
  have t0_10 := t0_9.ext x10
  have r0_10 := r0_0.ext X10
  have r1_10 := r1_0.ext X10
  go_wp2_with fail
  refine (l_eqInt64S_t _ _ xs1 _ x1x_10.rd t1_10.rd).mono ?_
  rintro e w11 ⟨rfl, d11⟩
  have x11 := d11.ext
  have z11 := x11.size
  have X11 : Ext w w11 := X10.trans x11
  have s0_11 := s0_10.ext x11
  have s1_11 := s1_10.ext x11
  have wt_11 := wt_10.ext x11
  have x0x_11 := x0x_10.ext x11
  have x1x_11 := x1x_10.ext x11
  have gt_11 := gt_10.ext x11
  have t0_11 := t0_10.ext x11
  have t1_11 := t1_10.ext x11
  have r0_11 := r0_0.ext X11
  have r1_11 := r1_0.ext X11
  go_wp2_with fail
  refine (l_markInt64S _ (1) xs0 _ _ (by omega) x0x_11).mono ?_
  rintro e w12 ⟨rfl, x0x_12, g12⟩
  have z12 := g12.size
  have X12 : Ext w w12 := Below.grown X11 g12 X11.size (fun j hj => Nat.le_trans (X3.size) (x0x_11.lt j hj).1)
  have s0_12 := s0_11.kept g12 (s0_1.apart x0x_11 (by omega))
  have s1_12 := s1_11.kept g12 (s1_2.apart x0x_11 (by omega))
  have wt_12 := wt_11.kept g12 (wt_3.apart x0x_11 (by omega))
  have x1x_12 := x1x_11.kept g12 (x0x_4.apart' x1x_11 (by omega))
  have gt_12 := gt_11.kept g12 (x0x_4.apart' gt_11 (by omega))
  have t0_12 := t0_11.kept g12 (x0x_4.apart' t0_11 (by omega))
  have t1_12 := t1_11.kept g12 (x0x_4.apart' t1_11 (by omega))
  have r0_12 := r0_0.ext X12
  have r1_12 := r1_0.ext X12
  go_wp2_with fail
  refine (l_markInt64S _ (1 + xs0.length) xs1 _ _ (by omega) x1x_12).mono ?_
  rintro e w13 ⟨rfl, x1x_13, g13⟩
  have z13 := g13.size
  have X13 : Ext w w13 := Below.grown X12 g13 X12.size (fun j hj => Nat.le_trans (X4.size) (x1x_12.lt j hj).1)
  have s0_13 := s0_12.kept g13 (s0_1.apart x1x_12 (by omega))
  have s1_13 := s1_12.kept g13 (s1_2.apart x1x_12 (by omega))
  have wt_13 := wt_12.kept g13 (wt_3.apart x1x_12 (by omega))
  have x0x_13 := x0x_12.kept g13 (x0x_4.apart x1x_12 (by omega))
  have gt_13 := gt_12.kept g13 (x1x_5.apart' gt_12 (by omega))
  have t0_13 := t0_12.kept g13 (x1x_5.apart' t0_12 (by omega))
  have t1_13 := t1_12.kept g13 (x1x_5.apart' t1_12 (by omega))
  have r0_13 := r0_0.ext X13
  have r1_13 := r1_0.ext X13
  go_wp2_with fail
  refine (l_eqInt64S_t _ _ R _ gt_13.rd wt_13.rd).mono ?_
  rintro e w14 ⟨rfl, d14⟩
  have x14 := d14.ext
  have z14 := x14.size
  have X14 : Ext w w14 := X13.trans x14
  have s0_14 := s0_13.ext x14
  have s1_14 := s1_13.ext x14
  have wt_14 := wt_13.ext x14
  have x0x_14 := x0x_13.ext x14
  have x1x_14 := x1x_13.ext x14
  have gt_14 := gt_13.ext x14
  have t0_14 := t0_13.ext x14
  have t1_14 := t1_13.ext x14
  have r0_14 := r0_0.ext X14
  have r1_14 := r1_0.ext X14
  go_wp2_with fail
  refine (l_markInt64S _ (1) R _ _ (by omega) gt_14).mono ?_
  rintro e w15 ⟨rfl, gt_15, g15⟩
  have z15 := g15.size
  have X15 : Ext w w15 := Below.grown X14 g15 X14.size (fun j hj => Nat.le_trans (X5.size) (gt_14.lt j hj).1)
  have s0_15 := s0_14.kept g15 (s0_1.apart gt_14 (by omega))
  have s1_15 := s1_14.kept g15 (s1_2.apart gt_14 (by omega))
  have wt_15 := wt_14.kept g15 (wt_3.apart gt_14 (by omega))
  have x0x_15 := x0x_14.kept g15 (x0x_4.apart gt_14 (by omega))
  have x1x_15 := x1x_14.kept g15 (x1x_5.apart gt_14 (by omega))
  have t0_15 := t0_14.kept g15 (gt_6.apart' t0_14 (by omega))
  have t1_15 := t1_14.kept g15 (gt_6.apart' t1_14 (by omega))
  have r0_15 := r0_0.ext X15
  have r1_15 := r1_0.ext X15
  go_wp2_with fail
  refine (l_heldInt64S _ 1 R.length _ (by omega) gt_15.rd).mono ?_
  rintro e _ ⟨rfl, rfl⟩
  go_wp2_with fail
  refine (l_toInt64S _ xs0 _ (by omega) r0_15).mono ?_
  rintro e w16 ⟨u_y0, rfl, y0_16, x16⟩
  have z16 := x16.size
  have X16 : Ext w w16 := X15.trans x16
  have s0_16 := s0_15.ext x16
  have s1_16 := s1_15.ext x16
  have wt_16 := wt_15.ext x16
  have x0x_16 := x0x_15.ext x16
  have x1x_16 := x1x_15.ext x16
  have gt_16 := gt_15.ext x16
  have t0_16 := t0_15.ext x16
  have t1_16 := t1_15.ext x16
  have r0_16 := r0_0.ext X16
  have r1_16 := r1_0.ext X16
  go_wp2_with fail
  refine (l_toInt64S _ xs1 _ (by omega) r1_16).mono ?_
  rintro e w17 ⟨u_y1, rfl, y1_17, x17⟩
  have z17 := x17.size
  have X17 : Ext w w17 := X16.trans x17
  have s0_17 := s0_16.ext x17
  have s1_17 := s1_16.ext x17
  have wt_17 := wt_16.ext x17
  have x0x_17 := x0x_16.ext x17
  have x1x_17 := x1x_16.ext x17
  have gt_17 := gt_16.ext x17
  have t0_17 := t0_16.ext x17
  have t1_17 := t1_16.ext x17
  have y0_17 := y0_16.ext x17
  have r0_17 := r0_0.ext X17
  have r1_17 := r1_0.ext X17
  go_wp2_with fail
  refine (i_ApplySet _ xs0 _ xs1 _ y0_17.rd y1_17.rd (by omega)).mono ?_
  rintro e w18 ⟨u_ht, rfl, ht_18, x18⟩
  rw [← HR.out] at ht_18
  have z18 := x18.size
  have X18 : Ext w w18 := X17.trans x18
  have s0_18 := s0_17.ext x18
  have s1_18 := s1_17.ext x18
  have wt_18 := wt_17.ext x18
  have x0x_18 := x0x_17.ext x18
  have x1x_18 := x1x_17.ext x18
  have gt_18 := gt_17.ext x18
  have t0_18 := t0_17.ext x18
  have t1_18 := t1_17.ext x18
  have y0_18 := y0_17.ext x18
  have y1_18 := y1_17.ext x18
  have r0_18 := r0_0.ext X18
  have r1_18 := r1_0.ext X18
  go_wp2_with fail
  refine (l_eqInt64S_t _ _ R _ ht_18.rd wt_18.rd).mono ?_
  rintro e w19 ⟨rfl, d19⟩
  have x19 := d19.ext
  have z19 := x19.size
  have X19 : Ext w w19 := X18.trans x19
  have s0_19 := s0_18.ext x19
  have s1_19 := s1_18.ext x19
  have wt_19 := wt_18.ext x19
  have x0x_19 := x0x_18.ext x19
  have x1x_19 := x1x_18.ext x19
  have gt_19 := gt_18.ext x19
  have t0_19 := t0_18.ext x19
  have t1_19 := t1_18.ext x19
  have y0_19 := y0_18.ext x19
  have y1_19 := y1_18.ext x19
  have ht_19 := ht_18.ext x19
  have r0_19 := r0_0.ext X19
  have r1_19 := r1_0.ext X19
  go_wp2_with fail
  refine (l_heldInt64S _ 1 R.length _ (by omega) gt_19.rd).mono ?_
  rintro e _ ⟨rfl, rfl⟩
  go_wp2
  go_ret
  exact ⟨rfl, X19⟩

end Go.Proofs.Ytloacmfafccofaa
