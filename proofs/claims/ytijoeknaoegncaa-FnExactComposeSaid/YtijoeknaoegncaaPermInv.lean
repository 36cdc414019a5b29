/- InvertPermutation and Compose: the walks of the program and of the reference, and the laws. No condition. -/
import Derived.Test.YtijoeknaoegncaaPermValid
namespace Go.Proofs.Ytijoeknaoegncaa
open Go.RowKit

abbrev casN (ns : List Nat) : List Int := ns.map (fun x : Nat => (x : Int))
/-- A permutation, as natural numbers. -/
def IsP (ns : List Nat) : Prop := ns.length ≤ 32 ∧ (∀ i (h : i < ns.length), ns[i] < ns.length) ∧ ns.Nodup
theorem isP_of_valid {xs : List Int} (h : validP xs = true) : ∃ ns, xs = casN ns ∧ IsP ns := by
  rw [validP, Bool.and_eq_true, decide_eq_true_eq] at h
  obtain ⟨h1, h2⟩ := okP_iff.1 h.2
  have hx : xs = casN (xs.map Int.toNat) := by
    apply List.ext_getElem (by simp)
    intro i p q
    have := h1 xs[i] (List.getElem_mem p)
    simp; omega
  refine ⟨xs.map Int.toNat, hx, by simpa using h.1, fun i hi => ?_, ?_⟩
  · have hi' : i < xs.length := by simpa using hi
    have := h1 xs[i] (List.getElem_mem hi')
    simp; omega
  · rw [hx] at h2
    exact (List.pairwise_map.1 h2).imp (by intro a b h e; exact h (by rw [e]))
/-- The cells of a list of natural numbers that came in. -/
theorem rd_cells {w : World} {a : Option Addr} {n cap : Nat} {ns : List Nat} (h : Rd w (.slice a n cap) (casN ns)) : n = ns.length ∧ n ≤ cap ∧ cap ≤ 9223372036854775807 ∧ Hid (0 < ns.length → ∃ b o, a = some ⟨b, o, none⟩ ∧ b < w.heap.size ∧ ∀ i (h : i < ns.length), w.cell? ⟨b, o + i, none⟩ = some (.int .i64 (ns[i] : Nat))) := by
  obtain ⟨a', cap', he, hc, hm, hr⟩ := h
  cases he
  rw [List.length_map] at hc ⊢
  refine ⟨rfl, hc, hm, Lib.hid fun hk => ?_⟩
  obtain ⟨b, o, h1, h3, h2⟩ := hr (by simpa using hk)
  refine ⟨b, o, h1, h3, fun i hi => ?_⟩
  rw [h2 i (by simpa using hi)]
  simp
def backTo (ns : List Nat) : Nat → List Int
  | 0 => List.replicate ns.length 0
  | k + 1 => (backTo ns k).set (ns.getD k 0) (k : Int)
theorem backTo_len (ns : List Nat) : ∀ k, (backTo ns k).length = ns.length
  | 0 => by simp [backTo]
  | k + 1 => by rw [backTo, List.length_set, backTo_len ns k]
def timesN (ns ms : List Nat) : List Int := ns.map fun a => ((ms.getD a 0 : Nat) : Int)
theorem timesN_len (ns ms : List Nat) : (timesN ns ms).length = ns.length := by simp [timesN]
theorem timesN_get (ns ms : List Nat) (i : Nat) (h : i < ns.length) (h2 : ns[i] < ms.length) : (timesN ns ms)[i]'(by rw [timesN_len]; exact h) = (ms[ns[i]] : Nat) := by
  simp [timesN, h2]

set_option maxHeartbeats 400000 in
theorem i_back (v : Value) (ns : List Nat) (w : World) (hp : IsP ns) (h : Rd w v (casN ns)) : Calls Try.prog 44 #[v] w (RetInts w (backTo ns ns.length)) := by
  obtain ⟨hp1, hp2, _⟩ := hp
  have HP2 := Lib.hid hp2
  obtain ⟨a, n, cap, rfl⟩ : ∃ a n cap, v = .slice a n cap := by obtain ⟨a, cap, h1, _⟩ := h; exact ⟨_, _, _, h1⟩
  obtain ⟨rfl, hc, hm, HC⟩ := rd_cells h
  obtain ⟨N, HN⟩ : ∃ N, Hid (N = ns.length) := ⟨_, Lib.hid rfl⟩
  clear h hp2
  rw [← HN.out] at hc hp1 ⊢
  go_enter Try.func44, Try.ntmps44
  go_wp2_with (at_make; refine wp_make _ rfl _ _ rfl w.heap.size .i64 .i64 _ _ N rfl rfl rfl rfl (by omega) (Nat.le_refl _) ?_; intro w1 hown hext)
  go_loopw [11] (fun i wr => ∃ k : Nat, k ≤ N ∧ i = .int .i64 k ∧ Hid (Own wr w.heap.size (.slice (some ⟨w.heap.size, 0, none⟩) N N) (backTo ns k)) ∧ Hid (Ext w wr)) (fun i _ => N - (intOf i).toNat)
  case atStart => exact ⟨0, by omega, rfl, Lib.hid (by rw [backTo, ← HN.out]; exact hown), Lib.hid hext⟩
  case round =>
    clear hown hext
    obtain ⟨k, hk, rfl, hown, hext⟩ := hrel
    by_cases hlt : k < N
    · have hlt' : k < ns.length := by rw [← HN.out]; exact hlt
      obtain ⟨b, o, rfl, hb, hall⟩ := HC.out (by rw [← HN.out]; omega)
      have hx := (hext.out.cell (p := ⟨b, o + k, none⟩) hb).trans (hall k hlt')
      obtain ⟨y, HY⟩ : ∃ y, Hid (y = ns[k]) := ⟨_, Lib.hid rfl⟩
      have hyN : y < N := by rw [HY.out, HN.out]; exact HP2.out k hlt'
      rw [← HY.out] at hx
      clear hall
      have hc1 := hown.out.cell y (by rw [List.length_map, backTo_len, ← HN.out]; exact hyN)
      have hf1 := hown.out.frozen y
      obtain ⟨hs1, hs2⟩ := hown.out.stored y (.int .i64 (k : Int))
      have HS : Hid (Own (wr.setCell ⟨w.heap.size, y, none⟩ (.int .i64 (k : Int))) w.heap.size (.slice (some ⟨w.heap.size, 0, none⟩) N N) (backTo ns (k + 1))) := Lib.hid (by
        have hg : ns.getD k 0 = y := by rw [HY.out]; simp [hlt']
        unfold Own; rw [backTo, hg, List.map_set]; exact hs1)
      have HE : Hid (Ext w (wr.setCell ⟨w.heap.size, y, none⟩ (.int .i64 (k : Int)))) := Lib.hid (ext_app (e := 2) (v := .slice (some ⟨w.heap.size, 0, none⟩) N N) hext.out hown.out hs2)
      generalize ((backTo ns k).map (Value.int .i64))[y]'(by rw [List.length_map, backTo_len, ← HN.out]; exact hyN) = old at hc1
      clear hs1 hs2 hown hext
      go_wp2
      exact ⟨⟨k + 1, by omega, by go_num, HS, HE⟩, by simp only [intOf]; omega⟩
    · obtain rfl : k = N := by omega
      go_wp2
      go_ret
      exact ⟨_, rfl, hown.out, hext.out⟩
set_option maxHeartbeats 400000 in
theorem s_back (v : Value) (ns : List Nat) (w : World) (hp : IsP ns) (h : Rd w v (casN ns)) : Calls Try.prog 43 #[v] w (RetInts w (backTo ns ns.length)) := by
  obtain ⟨hp1, hp2, _⟩ := hp
  have HP2 := Lib.hid hp2
  obtain ⟨a, n, cap, rfl⟩ : ∃ a n cap, v = .slice a n cap := by obtain ⟨a, cap, h1, _⟩ := h; exact ⟨_, _, _, h1⟩
  obtain ⟨rfl, hc, hm, HC⟩ := rd_cells h
  obtain ⟨N, HN⟩ : ∃ N, Hid (N = ns.length) := ⟨_, Lib.hid rfl⟩
  clear h hp2
  rw [← HN.out] at hc hp1 ⊢
  go_enter Try.func43, Try.ntmps43
  go_wp2_with (at_make; refine wp_make _ rfl _ _ rfl w.heap.size .i64 .i64 _ _ N rfl rfl rfl rfl (by omega) (Nat.le_refl _) ?_; intro w1 hown hext)
  go_loopw [4] (fun i wr => ∃ k : Nat, k ≤ N ∧ i = .int .i64 k ∧ Hid (Own wr w.heap.size (.slice (some ⟨w.heap.size, 0, none⟩) N N) (backTo ns k)) ∧ Hid (Ext w wr)) (fun i _ => N - (intOf i).toNat)
  case atStart => exact ⟨0, by omega, rfl, Lib.hid (by rw [backTo, ← HN.out]; exact hown), Lib.hid hext⟩
  case round =>
    clear hown hext
    obtain ⟨k, hk, rfl, hown, hext⟩ := hrel
    by_cases hlt : k < N
    · have hlt' : k < ns.length := by rw [← HN.out]; exact hlt
      obtain ⟨b, o, rfl, hb, hall⟩ := HC.out (by rw [← HN.out]; omega)
      have hx := (hext.out.cell (p := ⟨b, o + k, none⟩) hb).trans (hall k hlt')
      obtain ⟨y, HY⟩ : ∃ y, Hid (y = ns[k]) := ⟨_, Lib.hid rfl⟩
      have hyN : y < N := by rw [HY.out, HN.out]; exact HP2.out k hlt'
      rw [← HY.out] at hx
      clear hall
      have hc1 := hown.out.cell y (by rw [List.length_map, backTo_len, ← HN.out]; exact hyN)
      have hf1 := hown.out.frozen y
      obtain ⟨hs1, hs2⟩ := hown.out.stored y (.int .i64 (k : Int))
      have HS : Hid (Own (wr.setCell ⟨w.heap.size, y, none⟩ (.int .i64 (k : Int))) w.heap.size (.slice (some ⟨w.heap.size, 0, none⟩) N N) (backTo ns (k + 1))) := Lib.hid (by
        have hg : ns.getD k 0 = y := by rw [HY.out]; simp [hlt']
        unfold Own; rw [backTo, hg, List.map_set]; exact hs1)
      have HE : Hid (Ext w (wr.setCell ⟨w.heap.size, y, none⟩ (.int .i64 (k : Int)))) := Lib.hid (ext_app (e := 2) (v := .slice (some ⟨w.heap.size, 0, none⟩) N N) hext.out hown.out hs2)
      generalize ((backTo ns k).map (Value.int .i64))[y]'(by rw [List.length_map, backTo_len, ← HN.out]; exact hyN) = old at hc1
      clear hs1 hs2 hown hext
      go_wp2
      exact ⟨⟨k + 1, by omega, by go_num, HS, HE⟩, by simp only [intOf]; omega⟩
    · obtain rfl : k = N := by omega
      go_wp2
      go_ret
      exact ⟨_, rfl, hown.out, hext.out⟩
def invOut (xs : List Int) : List Int := if validP xs then backTo (xs.map Int.toNat) xs.length else []
def invCode (xs : List Int) : Int := if validP xs then 0 else 1
theorem casN_toNat (ns : List Nat) : (casN ns).map Int.toNat = ns := by simp [casN, List.map_map, Function.comp_def]
theorem invOut_len (xs : List Int) : (invOut xs).length ≤ 3000000 := by
  unfold invOut; split
  · rename_i h
    rw [validP, Bool.and_eq_true, decide_eq_true_eq] at h
    rw [backTo_len, List.length_map]; omega
  · simp
theorem i_InvertPermutation (v : Value) (xs : List Int) (w : World) (h : Rd w v xs) (hn : xs.length ≤ 100000000) : Calls Try.prog 18 #[v] w (RetIntsI w (invOut xs) (invCode xs)) := by
  have HRD := Lib.hid h
  have _hn := hn
  clear h
  cases hv : validP xs
  · have G : Hid (invOut xs = []) := Lib.hid (by simp [invOut, hv])
    have G2 : Hid (invCode xs = 1) := Lib.hid (by simp [invCode, hv])
    go_enter Try.func18, Try.ntmps18
    go_wp2_with fail
    refine (i_ValidPermutation _ xs _ HRD.out hn).mono ?_
    rintro e w1 ⟨rfl, hd⟩
    rw [hv]
    go_wp2
    go_ret2
    exact ⟨_, by rw [G2.out]; rfl, by rw [G.out]; exact OwnV.nil _ _ _, hd⟩
  · have G2 : Hid (invCode xs = 0) := Lib.hid (by simp [invCode, hv])
    obtain ⟨ns, hxs, hp⟩ := isP_of_valid hv
    have G : Hid (invOut xs = backTo ns ns.length) := Lib.hid (by
      rw [invOut, hv, if_pos rfl, hxs, casN_toNat, List.length_map])
    have HV := Lib.hid hv
    have HP := Lib.hid hp
    have HXS := Lib.hid hxs
    rw [G2.out, G.out]
    clear hv hp hxs
    go_enter Try.func18, Try.ntmps18
    go_wp2_with fail
    refine (i_ValidPermutation _ xs _ HRD.out hn).mono ?_
    rintro e w1 ⟨rfl, hd⟩
    rw [HV.out]
    go_wp2_with fail
    refine (i_back _ ns _ HP.out (by rw [← HXS.out]; exact HRD.out.ext hd)).mono ?_
    rintro e w2 ⟨u, rfl, hown, hext⟩
    go_wp2
    go_ret2
    exact ⟨_, rfl, hown.mono hd.size, hd.trans hext⟩
theorem s_InvertPermutation (v : Value) (xs : List Int) (w : World) (h : Rd w v xs) (hn : xs.length ≤ 100000000) : Calls Try.prog 17 #[v] w (RetIntsI w (invOut xs) (invCode xs)) := by
  have HRD := Lib.hid h
  have _hn := hn
  clear h
  cases hv : validP xs
  · have G : Hid (invOut xs = []) := Lib.hid (by simp [invOut, hv])
    have G2 : Hid (invCode xs = 1) := Lib.hid (by simp [invCode, hv])
    go_enter Try.func17, Try.ntmps17
    go_wp2_with fail
    refine (s_l04Ok _ xs _ HRD.out  ).mono ?_
    rintro e w1 ⟨rfl, hd⟩
    rw [hv]
    go_wp2
    go_ret2
    exact ⟨_, by rw [G2.out]; rfl, by rw [G.out]; exact OwnV.nil _ _ _, hd.ext⟩
  · have G2 : Hid (invCode xs = 0) := Lib.hid (by simp [invCode, hv])
    obtain ⟨ns, hxs, hp⟩ := isP_of_valid hv
    have G : Hid (invOut xs = backTo ns ns.length) := Lib.hid (by
      rw [invOut, hv, if_pos rfl, hxs, casN_toNat, List.length_map])
    have HV := Lib.hid hv
    have HP := Lib.hid hp
    have HXS := Lib.hid hxs
    rw [G2.out, G.out]
    clear hv hp hxs
    go_enter Try.func17, Try.ntmps17
    go_wp2_with fail
    refine (s_l04Ok _ xs _ HRD.out  ).mono ?_
    rintro e w1 ⟨rfl, hd⟩
    rw [HV.out]
    go_wp2_with fail
    refine (s_back _ ns _ HP.out (by rw [← HXS.out]; exact HRD.out.ext hd.ext)).mono ?_
    rintro e w2 ⟨u, rfl, hown, hext⟩
    go_wp2
    go_ret2
    exact ⟨_, rfl, hown.mono hd.ext.size, hd.ext.trans hext⟩
theorem l_InvertPermutation (w : World) (v0 : Value) (xs0 : List Int) (h0 : Rd w v0 xs0) :
    Calls Try.prog 4 #[v0] w fun e w' => e = .returned (.bool true) ∧ Ext w w' := by
  have r0_0 := h0
  obtain ⟨ad0, cap0, rfl, hc0, hm0, _⟩ := h0
  by_cases hl0 : 1048576 < xs0.length
  · go_enter Try.func4, Try.ntmps4
    go_wp2
    go_ret
    exact ⟨rfl, Ext.refl _⟩
  have hbd := Lib.hid (show (invOut xs0).length ≤ 3000000 from invOut_len xs0)
  obtain ⟨R, HR⟩ : ∃ R : List Int, Hid (R = invOut xs0) := ⟨_, Lib.hid rfl⟩
  have hb : R.length ≤ 3000000 := by rw [HR.out]; exact hbd.out
  clear hbd
  have X0 : Ext w w := Ext.refl w
  go_enter Try.func4, Try.ntmps4
  go_wp2_with fail
  refine (l_toInt64S _ xs0 _ (by omega) r0_0).mono ?_
  rintro e w1 ⟨u_s0, rfl, s0_1, x1⟩
  have z1 := x1.size
  have X1 : Ext w w1 := X0.trans x1
  have r0_1 := r0_0.ext X1
  go_wp2_with fail
  refine (s_InvertPermutation _ xs0 _ s0_1.rd (by omega)).mono ?_
  rintro e w2 ⟨u_wt, rfl, wt_2, x2⟩
  rw [← HR.out] at wt_2
  have z2 := x2.size
  have X2 : Ext w w2 := X1.trans x2
  have s0_2 := s0_1.ext x2
  have r0_2 := r0_0.ext X2
  go_wp2_with fail
  refine (l_toInt64S _ xs0 _ (by omega) r0_2).mono ?_
  rintro e w3 ⟨u_x0x, rfl, x0x_3, x3⟩
  have z3 := x3.size
  have X3 : Ext w w3 := X2.trans x3
  have s0_3 := s0_2.ext x3
  have wt_3 := wt_2.ext x3
  have r0_3 := r0_0.ext X3
  go_wp2_with fail
  refine (i_InvertPermutation _ xs0 _ x0x_3.rd (by omega)).mono ?_
  rintro e w4 ⟨u_gt, rfl, gt_4, x4⟩
  rw [← HR.out] at gt_4
  have z4 := x4.size
  have X4 : Ext w w4 := X3.trans x4
  have s0_4 := s0_3.ext x4
  have wt_4 := wt_3.ext x4
  have x0x_4 := x0x_3.ext x4
  have r0_4 := r0_0.ext X4
  go_wp2_with fail
  refine (l_eqInt64S_t _ _ R _ gt_4.rd wt_4.rd).mono ?_
  rintro e w5 ⟨rfl, d5⟩
  have x5 := d5.ext
  have z5 := x5.size
  have X5 : Ext w w5 := X4.trans x5
  have s0_5 := s0_4.ext x5
  have wt_5 := wt_4.ext x5
  have x0x_5 := x0x_4.ext x5
  have gt_5 := gt_4.ext x5
  have r0_5 := r0_0.ext X5
  go_wp2_with fail
  refine (l_toInt64S _ xs0 _ (by omega) r0_5).mono ?_
  rintro e w6 ⟨u_t0, rfl, t0_6, x6⟩
  have z6 := x6.size
  have X6 : Ext w w6 := X5.trans x6
  have s0_6 := s0_5.ext x6
  have wt_6 := wt_5.ext x6
  have x0x_6 := x0x_5.ext x6
  have gt_6 := gt_5.ext x6
  have r0_6 := r0_0.ext X6
  go_wp2_with fail
  refine (l_eqInt64S_t _ _ xs0 _ x0x_6.rd t0_6.rd).mono ?_
  rintro e w7 ⟨rfl, d7⟩
  have x7 := d7.ext
  have z7 := x7.size
  have X7 : Ext w w7 := X6.trans x7
  have s0_7 := s0_6.ext x7
  have wt_7 := wt_6.ext x7
  have x0x_7 := x0x_6.ext x7
  have gt_7 := gt_6.ext x7
  have t0_7 := t0_6.ext x7
  have r0_7 := r0_0.ext X7
  go_wp2_with fail
  refine (l_markInt64S _ (1) xs0 _ _ (by omega) x0x_7).mono ?_
  rintro e w8 ⟨rfl, x0x_8, g8⟩
  have z8 := g8.size
  have X8 : Ext w w8 := Below.grown X7 g8 X7.size (fun j hj => Nat.le_trans (X2.size) (x0x_7.lt j hj).1)
  have s0_8 := s0_7.kept g8 (s0_1.apart x0x_7 (by omega))
  have wt_8 := wt_7.kept g8 (wt_2.apart x0x_7 (by omega))
  have gt_8 := gt_7.kept g8 (x0x_3.apart' gt_7 (by omega))
  have t0_8 := t0_7.kept g8 (x0x_3.apart' t0_7 (by omega))
  have r0_8 := r0_0.ext X8
  go_wp2_with fail
  refine (l_eqInt64S_t _ _ R _ gt_8.rd wt_8.rd).mono ?_
  rintro e w9 ⟨rfl, d9⟩
  have x9 := d9.ext
  have z9 := x9.size
  have X9 : Ext w w9 := X8.trans x9
  have s0_9 := s0_8.ext x9
  have wt_9 := wt_8.ext x9
  have x0x_9 := x0x_8.ext x9
  have gt_9 := gt_8.ext x9
  have t0_9 := t0_8.ext x9
  have r0_9 := r0_0.ext X9
  go_wp2_with fail
  refine (l_markInt64S _ (1) R _ _ (by omega) gt_9).mono ?_
  rintro e w10 ⟨rfl, gt_10, g10⟩
  have z10 := g10.size
  have X10 : Ext w w10 := Below.grown X9 g10 X9.size (fun j hj => Nat.le_trans (X3.size) (gt_9.lt j hj).1)
  have s0_10 := s0_9.kept g10 (s0_1.apart gt_9 (by omega))
  have wt_10 := wt_9.kept g10 (wt_2.apart gt_9 (by omega))
  have x0x_10 := x0x_9.kept g10 (x0x_3.apart gt_9 (by omega))
  have t0_10 := t0_9.kept g10 (gt_4.apart' t0_9 (by omega))
  have r0_10 := r0_0.ext X10
  go_wp2_with fail
  refine (l_heldInt64S _ 1 R.length _ (by omega) gt_10.rd).mono ?_
  rintro e _ ⟨rfl, rfl⟩
  go_wp2_with fail
  refine (l_toInt64S _ xs0 _ (by omega) r0_10).mono ?_
  rintro e w11 ⟨u_y0, rfl, y0_11, x11⟩
  have z11 := x11.size
  have X11 : Ext w w11 := X10.trans x11
  have s0_11 := s0_10.ext x11
  have wt_11 := wt_10.ext x11
  have x0x_11 := x0x_10.ext x11
  have gt_11 := gt_10.ext x11
  have t0_11 := t0_10.ext x11
  have r0_11 := r0_0.ext X11
  go_wp2_with fail
  refine (i_InvertPermutation _ xs0 _ y0_11.rd (by omega)).mono ?_
  rintro e w12 ⟨u_ht, rfl, ht_12, x12⟩
  rw [← HR.out] at ht_12
  have z12 := x12.size
  have X12 : Ext w w12 := X11.trans x12
  have s0_12 := s0_11.ext x12
  have wt_12 := wt_11.ext x12
  have x0x_12 := x0x_11.ext x12
  have gt_12 := gt_11.ext x12
  have t0_12 := t0_11.ext x12
  have y0_12 := y0_11.ext x12
  have r0_12 := r0_0.ext X12
  go_wp2_with fail
  refine (l_eqInt64S_t _ _ R _ ht_12.rd wt_12.rd).mono ?_
  rintro e w13 ⟨rfl, d13⟩
  have x13 := d13.ext
  have z13 := x13.size
  have X13 : Ext w w13 := X12.trans x13
  have s0_13 := s0_12.ext x13
  have wt_13 := wt_12.ext x13
  have x0x_13 := x0x_12.ext x13
  have gt_13 := gt_12.ext x13
  have t0_13 := t0_12.ext x13
  have y0_13 := y0_12.ext x13
  have ht_13 := ht_12.ext x13
  have r0_13 := r0_0.ext X13
  go_wp2_with fail
  refine (l_heldInt64S _ 1 R.length _ (by omega) gt_13.rd).mono ?_
  rintro e _ ⟨rfl, rfl⟩
  go_wp2
  go_ret
  exact ⟨rfl, X13⟩

end Go.Proofs.Ytijoeknaoegncaa
