/- MeetSets, MinusSets, UnionSets: the walks of the reference, and the laws. No condition. -/
import Derived.Test.YtlfeoglhhfppmaaSets
namespace Go.Proofs.Ytlfeoglhhfppmaa
open Go.RowKit

theorem OwnV.sane {e : TypeId} {w : World} {lo : Nat} {v : Value} {ys : List Value} (h : OwnV e w lo v ys) : v = .slice none 0 0 ∨ ∃ ad n c, v = .slice (some ad) n c := by
  obtain ⟨h1, h2⟩ := h
  rcases h2 with ⟨h2, h3⟩ | ⟨g, cap, cur, h3, _⟩
  · exact .inl h2
  · exact .inr ⟨_, _, _, h3⟩
theorem s_l00Own (v : Value) (xs : List Int) (w : World) (hn : xs.length ≤ 1000000000) (h : Rd w v xs) (hv : v = .slice none 0 0 ∨ ∃ ad n c, v = .slice (some ad) n c) : Calls Try.prog 31 #[v] w (RetInts w xs) := by
  have HRD := Lib.hid h
  rcases hv with rfl | ⟨ad, n, cap, rfl⟩
  · obtain ⟨a, cap, hva, hc, hm, hr⟩ := h
    have hx : xs = [] := by
      cases xs with
      | nil => rfl
      | cons x r => cases hva
    subst hx
    clear hr hc hm hva
    obtain ⟨i, hi, hz, h1, h8⟩ := info_i64
    go_enter Try.func31, Try.ntmps31
    go_wp2_with (at_builtin; refine wpList_append_own_none rfl _ _ 22 rfl w.heap.size 2 i 1 Try.underlying22 hi _ 0 [] rfl (OwnV.empty 2 w) rfl ?_)
    go_ret
    exact ⟨_, rfl, OwnV.empty _ _, ext_alloc _ _⟩
  · clear h
    go_enter Try.func31, Try.ntmps31
    go_wp2_with (at_builtin; refine wp_appRd _ rfl _ _ rfl _ _ [] rfl (OwnV.empty _ _) _ xs rfl (by intro n c h; cases h) (HRD.out.ext (ext_alloc _ _)) (by simp; omega) (by simp) ?_; intro v' w' hown hgr)
    go_ret
    exact ⟨_, rfl, by simpa using hown, ext_app (e := 2) (ext_alloc _ _) (OwnV.empty _ _) hgr⟩
set_option maxHeartbeats 400000 in
theorem s_l00Put (v : Value) (xs : List Int) (n : Int) (w : World) (hn : xs.length ≤ 1000000) (h : Rd w v xs) : Calls Try.prog 32 #[v, .int .i64 n] w (RetInts w (putL n false xs)) := by
  obtain ⟨a, cap, rfl, hc, hm, hr⟩ := h
  obtain ⟨N, HN⟩ : ∃ N, Hid (N = xs.length) := ⟨_, Lib.hid rfl⟩
  have HC : Hid (0 < N → ∃ b o, a = some ⟨b, o, none⟩ ∧ b < w.heap.size ∧ ∀ i (h : i < xs.length), w.cell? ⟨b, o + i, none⟩ = some (.int .i64 xs[i])) := Lib.hid (fun hk => hr (by rw [← HN.out]; exact hk))
  obtain ⟨R, HR⟩ : ∃ R, Hid (R = putL n false xs) := ⟨_, Lib.hid rfl⟩
  clear hr
  rw [← HN.out] at hc hn ⊢
  rw [← HR.out]
  go_enter Try.func32, Try.ntmps32
  go_wp2
  go_loopw [5, 6, 7] (fun v d q wr => ∃ (k : Nat) (D : Bool) (acc : List Int), k ≤ N ∧ q = .int .i64 k ∧ d = .bool D ∧ Hid (acc.length ≤ k + D.toNat) ∧ Hid (R = acc ++ putL n D (xs.drop k)) ∧ Hid (Own wr w.heap.size v acc) ∧ Hid (Ext w wr)) (fun _ _ q _ => N - (intOf q).toNat)
  case atStart => exact ⟨0, false, [], by omega, rfl, rfl, Lib.hid (by simp), Lib.hid (by simpa using HR.out), Lib.hid (OwnV.empty _ _), Lib.hid (ext_alloc _ _)⟩
  case round =>
    obtain ⟨k, D, acc, hk, rfl, rfl, hal, hmid, hown, hext⟩ := hrel
    by_cases hlt : k < N
    · have hlt' : k < xs.length := by rw [← HN.out]; exact hlt
      obtain ⟨b, o, rfl, hb, hall⟩ := HC.out (by omega)
      have hx := (hext.out.cell (p := ⟨b, o + k, none⟩) hb).trans (hall k hlt')
      have HD : Hid (xs.drop k = xs[k] :: xs.drop (k + 1)) := Lib.hid (drop_get hlt')
      obtain ⟨z, HZ⟩ : ∃ z, Hid (z = xs[k]) := ⟨_, Lib.hid rfl⟩
      rw [← HZ.out] at hx HD
      clear hall
      have hown1 := hown.out
      have hz := hext.out.size
      have hal1 : acc.length ≤ k + 1 := by have := hal.out; cases D <;> simp at this <;> omega
      have hal0 : Hid (D = false → acc.length ≤ k) := Lib.hid (by have := hal.out; intro h; subst h; simpa using this)
      have hsz : b < w.heap.size := hb
      cases D
      · by_cases h1 : n ≤ z
        · by_cases h2 : n < z
          · have HM : Hid (R = (acc ++ [n]) ++ [z] ++ putL n true (xs.drop (k + 1))) := Lib.hid (by rw [hmid.out, HD.out, putL, if_pos h1, if_pos h2]; simp)
            clear hmid HD hal
            have HXW := Lib.hid ((hext.out.cell (p := ⟨b, o + k, none⟩) hb).symm.trans hx)
            go_wp2_with (first | (at_builtin; refine wp_app1 _ rfl _ _ rfl _ _ (acc ++ [n]) rfl hown3 z rfl (by simp; omega) hz2 ?_; intro v' w' hown4 hgr4) | (at_builtin; refine wp_app1 _ rfl _ _ rfl _ _ acc rfl hown1 n rfl (by omega) hz ?_; intro v' w' hown3 hgr; have HE : Hid (Ext w w') := Lib.hid (ext_app (e := 2) hext.out hown1 hgr); have hx2 := (HE.out.cell (p := ⟨b, o + k, none⟩) hb).trans HXW.out; have hz2 := HE.out.size; clear hx))
            have HO := Lib.hid hown4
            have HE2 : Hid (Ext w w') := Lib.hid (ext_app (e := 2) HE.out hown3 hgr4)
            clear hown3 hgr hown4 hgr4 hown1
            go_wp2
            exact ⟨⟨k + 1, true, acc ++ [n] ++ [z], by omega, by go_num, rfl, Lib.hid (by have := hal0.out rfl; simp; omega), HM, HO, HE2⟩, by simp only [intOf]; omega⟩
          · have HM : Hid (R = acc ++ [z] ++ putL n true (xs.drop (k + 1))) := Lib.hid (by rw [hmid.out, HD.out, putL, if_pos h1, if_neg h2]; simp)
            have h3 : z ≤ n := by omega
            clear hmid HD hal
            go_wp2_with (at_builtin; refine wp_app1 _ rfl _ _ rfl _ _ acc rfl hown1 z rfl (by omega) hz ?_; intro v' w' hown3 hgr)
            have HO := Lib.hid hown3
            have HE : Hid (Ext w w') := Lib.hid (ext_app (e := 2) hext.out hown1 hgr)
            clear hown3 hgr hown1
            go_wp2
            exact ⟨⟨k + 1, true, acc ++ [z], by omega, by go_num, rfl, Lib.hid (by have := hal0.out rfl; simp; omega), HM, HO, HE⟩, by simp only [intOf]; omega⟩
        · have HM : Hid (R = acc ++ [z] ++ putL n false (xs.drop (k + 1))) := Lib.hid (by rw [hmid.out, HD.out, putL, if_neg h1]; simp)
          have h3 : z < n := by omega
          clear hmid HD hal
          go_wp2_with (at_builtin; refine wp_app1 _ rfl _ _ rfl _ _ acc rfl hown1 z rfl (by omega) hz ?_; intro v' w' hown3 hgr)
          have HO := Lib.hid hown3
          have HE : Hid (Ext w w') := Lib.hid (ext_app (e := 2) hext.out hown1 hgr)
          clear hown3 hgr hown1
          go_wp2
          exact ⟨⟨k + 1, false, acc ++ [z], by omega, by go_num, rfl, Lib.hid (by have := hal0.out rfl; simp; omega), HM, HO, HE⟩, by simp only [intOf]; omega⟩
      · have HM : Hid (R = acc ++ [z] ++ putL n true (xs.drop (k + 1))) := Lib.hid (by rw [hmid.out, HD.out, putL]; simp)
        clear hmid HD hal
        go_wp2_with (at_builtin; refine wp_app1 _ rfl _ _ rfl _ _ acc rfl hown1 z rfl (by omega) hz ?_; intro v' w' hown3 hgr)
        have HO := Lib.hid hown3
        have HE : Hid (Ext w w') := Lib.hid (ext_app (e := 2) hext.out hown1 hgr)
        clear hown3 hgr hown1
        go_wp2
        exact ⟨⟨k + 1, true, acc ++ [z], by omega, by go_num, rfl, Lib.hid (by simp; omega), HM, HO, HE⟩, by simp only [intOf]; omega⟩
    · have hd : xs.drop k = [] := List.drop_of_length_le (by rw [← HN.out]; omega)
      have hown1 := hown.out
      have hz := hext.out.size
      have hal1 : acc.length ≤ k + 1 := by have := hal.out; cases D <;> simp at this <;> omega
      cases D
      · have HM : Hid (R = acc ++ [n]) := Lib.hid (by rw [hmid.out, hd]; simp [putL])
        clear hmid hd hal
        go_wp2_with (at_builtin; refine wp_app1 _ rfl _ _ rfl _ _ acc rfl hown1 n rfl (by omega) hz ?_; intro v' w' hown3 hgr)
        go_ret
        exact ⟨_, rfl, by rw [HM.out]; exact hown3, ext_app (e := 2) hext.out hown1 hgr⟩
      · have HM : Hid (R = acc) := Lib.hid (by rw [hmid.out, hd]; simp [putL])
        clear hmid hd hal
        go_wp2
        go_ret
        exact ⟨_, rfl, by rw [HM.out]; exact hown1, hext.out⟩
set_option maxHeartbeats 400000 in
theorem s_l01Both (va vb : Value) (xs ys : List Int) (t : Bool) (w : World) (ha : Rd w va xs) (hb : Rd w vb ys) :
    Calls Try.prog 26 #[va, vb, .bool t] w (RetInts w (if validB xs 32 && validB ys 32 then xs.filter (fun x => hasB ys x == t) else [])) := by
  have HA := Lib.hid ha
  have HB := Lib.hid hb
  clear hb
  obtain ⟨R, HR⟩ : ∃ R, Hid (R = (if validB xs 32 && validB ys 32 then xs.filter (fun x => hasB ys x == t) else [])) := ⟨_, Lib.hid rfl⟩
  rw [← HR.out]
  cases h1 : validB xs 32
  · have G : Hid (R = []) := Lib.hid (by rw [HR.out]; simp [h1])
    clear ha
    go_enter Try.func26, Try.ntmps26
    go_wp2_with (go_at_call 30; refine (s_l01Set _ xs _ HA.out).mono ?_; rintro e w1 ⟨rfl, hd⟩)
    go_ret
    exact ⟨_, rfl, by rw [G.out]; exact OwnV.nil _ _ _, hd.ext⟩
  · have H1 := Lib.hid h1
    clear h1
    cases h2 : validB ys 32
    · have G : Hid (R = []) := Lib.hid (by rw [HR.out]; simp [h2])
      clear ha
      go_enter Try.func26, Try.ntmps26
      go_wp2_with fail
      refine (s_l01Set _ xs _ HA.out).mono ?_
      rintro e w1 ⟨rfl, hd⟩
      rw [H1.out]
      go_wp2_with fail
      refine (s_l01Set _ ys _ (HB.out.drawn hd)).mono ?_
      rintro e w2 ⟨rfl, hd2⟩
      rw [h2]
      go_wp2
      go_ret
      exact ⟨_, rfl, by rw [G.out]; exact OwnV.nil _ _ _, hd.ext.trans hd2.ext⟩
    · have H2 := Lib.hid h2
      have hlen := valid_len H1.out
      have G : Hid (R = xs.filter (fun x => hasB ys x == t)) := Lib.hid (by rw [HR.out]; simp [h2, H1.out])
      obtain ⟨a, cap, rfl, hc, hm, hr⟩ := ha
      obtain ⟨N, HN⟩ : ∃ N, Hid (N = xs.length) := ⟨_, Lib.hid rfl⟩
      have HC : Hid (0 < N → ∃ b o, a = some ⟨b, o, none⟩ ∧ b < w.heap.size ∧ ∀ i (h : i < xs.length), w.cell? ⟨b, o + i, none⟩ = some (.int .i64 xs[i])) := Lib.hid (fun hk => hr (by rw [← HN.out]; exact hk))
      clear hr h2
      rw [← HN.out] at hc hlen HA ⊢
      go_enter Try.func26, Try.ntmps26
      go_wp2_with fail
      refine (s_l01Set _ xs _ HA.out).mono ?_
      rintro e w1 ⟨rfl, hd⟩
      rw [H1.out]
      go_wp2_with fail
      refine (s_l01Set _ ys _ (HB.out.drawn hd)).mono ?_
      rintro e w2 ⟨rfl, hd2⟩
      rw [H2.out]
      have HX : Hid (Ext w w2) := Lib.hid (hd.ext.trans hd2.ext)
      clear hd hd2
      go_wp2
      go_loopw [7, 8] (fun v q wr => ∃ (k : Nat) (acc : List Int), k ≤ N ∧ q = .int .i64 k ∧ Hid (acc.length ≤ k) ∧ Hid (R = acc ++ (xs.drop k).filter (fun x => hasB ys x == t)) ∧ Hid (Own wr w.heap.size v acc) ∧ Hid (Ext w wr)) (fun _ q _ => N - (intOf q).toNat)
      case atStart => exact ⟨0, [], by omega, rfl, Lib.hid (by simp), Lib.hid (by rw [G.out]; simp), Lib.hid ((OwnV.empty _ _).mono HX.out.size), Lib.hid (HX.out.trans (ext_alloc _ _))⟩
      case round =>
        obtain ⟨k, acc, hk, rfl, hal, hmid, hown, hext⟩ := hrel
        by_cases hlt : k < N
        · have hlt' : k < xs.length := by rw [← HN.out]; exact hlt
          obtain ⟨b, o, rfl, hb, hall⟩ := HC.out (by omega)
          have hx := (hext.out.cell (p := ⟨b, o + k, none⟩) hb).trans (hall k hlt')
          have HD : Hid (xs.drop k = xs[k] :: xs.drop (k + 1)) := Lib.hid (drop_get hlt')
          obtain ⟨z, HZ⟩ : ∃ z, Hid (z = xs[k]) := ⟨_, Lib.hid rfl⟩
          rw [← HZ.out] at hx HD
          clear hall
          have hown1 := hown.out
          have hz := hext.out.size
          have hal1 := hal.out
          obtain ⟨h, HH⟩ : ∃ h, Hid (h = hasB ys z) := ⟨_, Lib.hid rfl⟩
          by_cases he : h = t
          · have HM : Hid (R = acc ++ [z] ++ (xs.drop (k + 1)).filter (fun x => hasB ys x == t)) := Lib.hid (by rw [hmid.out, HD.out, List.filter_cons_of_pos (by rw [← HH.out, he]; simp)]; simp)
            subst he
            clear hmid HD hal
            go_wp2_with fail
            refine (s_l00Has _ ys _ _ (HB.out.ext hext.out)).mono ?_
            rintro e w3 ⟨rfl, rfl⟩
            rw [← HH.out]
            have hbq : (h == h) = true := by simp
            go_wp2_with (at_builtin; refine wp_app1 _ rfl _ _ rfl _ _ acc rfl hown1 z rfl (by omega) hz ?_; intro v' w' hown3 hgr)
            have HO := Lib.hid hown3
            have HE : Hid (Ext w w') := Lib.hid (ext_app (e := 2) hext.out hown1 hgr)
            clear hown3 hgr hown1
            go_wp2
            exact ⟨⟨k + 1, acc ++ [z], by omega, by go_num, Lib.hid (by simp; omega), HM, HO, HE⟩, by simp only [intOf]; omega⟩
          · have HM : Hid (R = acc ++ (xs.drop (k + 1)).filter (fun x => hasB ys x == t)) := Lib.hid (by rw [hmid.out, HD.out, List.filter_cons_of_neg (by rw [← HH.out]; simpa using he)])
            have hbq : (h == t) = false := by simpa using he
            clear hmid HD hal he hown1
            go_wp2_with fail
            refine (s_l00Has _ ys _ _ (HB.out.ext hext.out)).mono ?_
            rintro e w3 ⟨rfl, rfl⟩
            rw [← HH.out]
            go_wp2
            exact ⟨⟨k + 1, acc, by omega, by go_num, Lib.hid (by omega), HM, hown, hext⟩, by simp only [intOf]; omega⟩
        · have HM : Hid (R = acc) := Lib.hid (by rw [hmid.out, List.drop_of_length_le (by rw [← HN.out]; omega)]; simp)
          clear hmid
          go_wp2
          go_ret
          exact ⟨_, rfl, by rw [HM.out]; exact hown.out, hext.out⟩
theorem s_MeetSets (va : Value) (xs : List Int) (vb : Value) (ys : List Int) (w : World) (ha : Rd w va xs) (hb : Rd w vb ys) : Calls Try.prog 8 #[va, vb] w (RetInts w (setB (fun a b => a && b) xs ys)) := by
  have HA := Lib.hid ha
  have HB := Lib.hid hb
  clear ha hb
  obtain ⟨R, HR⟩ : ∃ R, Hid (R = setB (fun a b => a && b) xs ys) := ⟨_, Lib.hid rfl⟩
  have HQ : Hid ((if validB xs 32 && validB ys 32 then xs.filter (fun x => hasB ys x == true) else []) = R) := Lib.hid (by
    rw [HR.out]
    cases h1 : validB xs 32
    · simp [setB, h1]
    · cases h2 : validB ys 32
      · simp [setB, h2]
      · exact (setB_in h1 h2 _ (fun x => by simp)).symm)
  rw [← HR.out]
  go_enter Try.func8, Try.ntmps8
  go_wp2_with fail
  refine (s_l01Both _ _ xs ys true _ HA.out HB.out).mono ?_
  rintro e w1 ⟨v, rfl, hown, hext⟩
  rw [HQ.out] at hown
  go_wp2
  go_ret
  exact ⟨_, rfl, hown, hext⟩
theorem l_MeetSets (w : World) (v0 : Value) (xs0 : List Int) (h0 : Rd w v0 xs0) (v1 : Value) (xs1 : List Int) (h1 : Rd w v1 xs1) :
    Calls Try.prog 3 #[v0, v1] w fun e w' => e = .returned (.bool true) ∧ Ext w w' := by
  have r0_0 := h0
  obtain ⟨ad0, cap0, rfl, hc0, hm0, _⟩ := h0
  have r1_0 := h1
  obtain ⟨ad1, cap1, rfl, hc1, hm1, _⟩ := h1
  by_cases hl0 : 1048576 < xs0.length
  · go_enter Try.func3, Try.ntmps3
    go_wp2
    go_ret
    exact ⟨rfl, Ext.refl _⟩
  by_cases hl1 : 1048576 < xs1.length
  · go_enter Try.func3, Try.ntmps3
    go_wp2
    go_ret
    exact ⟨rfl, Ext.refl _⟩
  have hbd := Lib.hid (show (setB (fun a b => a && b) xs0 xs1).length ≤ 3000000 from setB_len (fun a b => a && b) xs0 xs1)
  obtain ⟨R, HR⟩ : ∃ R : List Int, Hid (R = setB (fun a b => a && b) xs0 xs1) := ⟨_, Lib.hid rfl⟩
  have hb : R.length ≤ 3000000 := by rw [HR.out]; exact hbd.out
  clear hbd
  have X0 : Ext w w := Ext.refl w
  go_enter Try.func3, Try.ntmps3
  go_wp2_with fail
  refine (l_toInt64S _ xs0 _ (by omega) r0_0).mono ?_
  rintro e w1 ⟨u_s0, rfl, s0_1, x1⟩
  have z1 := x1.size
  have X1 : Ext w w1 := X0.trans x1
  have r0_1 := r0_0.ext X1
  have r1_1 := r1_0.ext X1
  go_wp2_with fail
  refine (l_toInt64S _ xs1 _ (by omega) r1_1).mono ?_
  rintro e w2 ⟨u_s1, rfl, s1_2, x2⟩
  have z2 := x2.size
  have X2 : Ext w w2 := X1.trans x2
  have s0_2 := s0_1.ext x2
  have r0_2 := r0_0.ext X2
  have r1_2 := r1_0.ext X2
  go_wp2_with fail
  refine (s_MeetSets _ xs0 _ xs1 _ s0_2.rd s1_2.rd ).mono ?_
  rintro e w3 ⟨u_wt, rfl, wt_3, x3⟩
  rw [← HR.out] at wt_3
  have z3 := x3.size
  have X3 : Ext w w3 := X2.trans x3
  have s0_3 := s0_2.ext x3
  have s1_3 := s1_2.ext x3
  have r0_3 := r0_0.ext X3
  have r1_3 := r1_0.ext X3
  go_wp2_with fail
  refine (l_toInt64S _ xs0 _ (by omega) r0_3).mono ?_
  rintro e w4 ⟨u_x0x, rfl, x0x_4, x4⟩
  have z4 := x4.size
  have X4 : Ext w w4 := X3.trans x4
  have s0_4 := s0_3.ext x4
  have s1_4 := s1_3.ext x4
  have wt_4 := wt_3.ext x4
  have r0_4 := r0_0.ext X4
  have r1_4 := r1_0.ext X4
  go_wp2_with fail
  refine (l_toInt64S _ xs1 _ (by omega) r1_4).mono ?_
  rintro e w5 ⟨u_x1x, rfl, x1x_5, x5⟩
  have z5 := x5.size
  have X5 : Ext w w5 := X4.trans x5
  have s0_5 := s0_4.ext x5
  have s1_5 := s1_4.ext x5
  have wt_5 := wt_4.ext x5
  have x0x_5 := x0x_4.ext x5
  have r0_5 := r0_0.ext X5
  have r1_5 := r1_0.ext X5
  go_wp2_with fail
  refine (i_MeetSets _ xs0 _ xs1 _ x0x_5.rd x1x_5.rd ).mono ?_
  rintro e w6 ⟨u_gt, rfl, gt_6, x6⟩
  rw [← HR.out] at gt_6
  have z6 := x6.size
  have X6 : Ext w w6 := X5.trans x6
  have s0_6 := s0_5.ext x6
  have s1_6 := s1_5.ext x6
  have wt_6 := wt_5.ext x6
  have x0x_6 := x0x_5.ext x6
  have x1x_6 := x1x_5.ext x6
  have r0_6 := r0_0.ext X6
  have r1_6 := r1_0.ext X6
  go_wp2_with fail
  refine (l_eqInt64S_t _ _ R _ gt_6.rd wt_6.rd).mono ?_
  rintro e w7 ⟨rfl, d7⟩
  have x7 := d7.ext
  have z7 := x7.size
  have X7 : Ext w w7 := X6.trans x7
  have s0_7 := s0_6.ext x7
  have s1_7 := s1_6.ext x7
  have wt_7 := wt_6.ext x7
  have x0x_7 := x0x_6.ext x7
  have x1x_7 := x1x_6.ext x7
  have gt_7 := gt_6.ext x7
  have r0_7 := r0_0.ext X7
  have r1_7 := r1_0.ext X7
  go_wp2_with fail
  refine (l_toInt64S _ xs0 _ (by omega) r0_7).mono ?_
  rintro e w8 ⟨u_t0, rfl, t0_8, x8⟩
  have z8 := x8.size
  have X8 : Ext w w8 := X7.trans x8
  have s0_8 := s0_7.ext x8
  have s1_8 := s1_7.ext x8
  have wt_8 := wt_7.ext x8
  have x0x_8 := x0x_7.ext x8
  have x1x_8 := x1x_7.ext x8
  have gt_8 := gt_7.ext x8
  have r0_8 := r0_0.ext X8
  have r1_8 := r1_0.ext X8
  go_wp2_with fail
  refine (l_eqInt64S_t _ _ xs0 _ x0x_8.rd t0_8.rd).mono ?_
  rintro e w9 ⟨rfl, d9⟩
  have x9 := d9.ext
  have z9 := x9.size
  have X9 : Ext w w9 := X8.trans x9
  have s0_9 := s0_8.ext x9
  have s1_9 := s1_8.ext x9
  have wt_9 := wt_8.ext x9
  have x0x_9 := x0x_8.ext x9
  have x1x_9 := x1x_8.ext x9
  have gt_9 := gt_8.ext x9
  have t0_9 := t0_8.ext x9
  have r0_9 := r0_0.ext X9
  have r1_9 := r1_0.ext X9
  go_wp2_with fail
  refine (l_toInt64S _ xs1 _ (by omega) r1_9).mono ?_
  rintro e w10 ⟨u_t1, rfl, t1_10, x10⟩
  have z10 := x10.size
  have X10 : Ext w w10 := X9.trans x10
  have s0_10 := s0_9.ext x10
  have s1_10 := s1_9.ext x10
  have wt_10 := wt_9.ext x10
  have x0x_10 := x0x_9.ext x10
  have x1x_10 := x1x_9.ext x10
  have gt_10 := gt_9.ext x10
  have t0_10 := t0_9.ext x10
  have r0_10 := r0_0.ext X10
  have r1_10 := r1_0.ext X10
  go_wp2_with fail
  refine (l_eqInt64S_t _ _ xs1 _ x1x_10.rd t1_10.rd).mono ?_
  rintro e w11 ⟨rfl, d11⟩
  have x11 := d11.ext
  have z11 := x11.size
  have X11 : Ext w w11 := X10.trans x11
  have s0_11 := s0_10.ext x11
  have s1_11 := s1_10.ext x11
  have wt_11 := wt_10.ext x11
  have x0x_11 := x0x_10.ext x11
  have x1x_11 := x1x_10.ext x11
  have gt_11 := gt_10.ext x11
  have t0_11 := t0_10.ext x11
  have t1_11 := t1_10.ext x11
  have r0_11 := r0_0.ext X11
  have r1_11 := r1_0.ext X11
  go_wp2_with fail
  refine (l_markInt64S _ (1) xs0 _ _ (by omega) x0x_11).mono ?_
  rintro e w12 ⟨rfl, x0x_12, g12⟩
  have z12 := g12.size
  have X12 : Ext w w12 := Below.grown X11 g12 X11.size (fun j hj => Nat.le_trans (X3.size) (x0x_11.lt j hj).1)
  have s0_12 := s0_11.kept g12 (s0_1.apart x0x_11 (by omega))
  have s1_12 := s1_11.kept g12 (s1_2.apart x0x_11 (by omega))
  have wt_12 := wt_11.kept g12 (wt_3.apart x0x_11 (by omega))
  have x1x_12 := x1x_11.kept g12 (x0x_4.apart' x1x_11 (by omega))
  have gt_12 := gt_11.kept g12 (x0x_4.apart' gt_11 (by omega))
  have t0_12 := t0_11.kept g12 (x0x_4.apart' t0_11 (by omega))
  have t1_12 := t1_11.kept g12 (x0x_4.apart' t1_11 (by omega))
  have r0_12 := r0_0.ext X12
  have r1_12 := r1_0.ext X12
  go_wp2_with fail
  refine (l_markInt64S _ (1 + xs0.length) xs1 _ _ (by omega) x1x_12).mono ?_
  rintro e w13 ⟨rfl, x1x_13, g13⟩
  have z13 := g13.size
  have X13 : Ext w w13 := Below.grown X12 g13 X12.size (fun j hj => Nat.le_trans (X4.size) (x1x_12.lt j hj).1)
  have s0_13 := s0_12.kept g13 (s0_1.apart x1x_12 (by omega))
  have s1_13 := s1_12.kept g13 (s1_2.apart x1x_12 (by omega))
  have wt_13 := wt_12.kept g13 (wt_3.apart x1x_12 (by omega))
  have x0x_13 := x0x_12.kept g13 (x0x_4.apart x1x_12 (by omega))
  have gt_13 := gt_12.kept g13 (x1x_5.apart' gt_12 (by omega))
  have t0_13 := t0_12.kept g13 (x1x_5.apart' t0_12 (by omega))
  have t1_13 := t1_12.kept g13 (x1x_5.apart' t1_12 (by omega))
  have r0_13 := r0_0.ext X13
  have r1_13 := r1_0.ext X13
  go_wp2_with fail
  refine (l_eqInt64S_t _ _ R _ gt_13.rd wt_13.rd).mono ?_
  rintro e w14 ⟨rfl, d14⟩
  have x14 := d14.ext
  have z14 := x14.size
  have X14 : Ext w w14 := X13.trans x14
  have s0_14 := s0_13.ext x14
  have s1_14 := s1_13.ext x14
  have wt_14 := wt_13.ext x14
  have x0x_14 := x0x_13.ext x14
  have x1x_14 := x1x_13.ext x14
  have gt_14 := gt_13.ext x14
  have t0_14 := t0_13.ext x14
  have t1_14 := t1_13.ext x14
  have r0_14 := r0_0.ext X14
  have r1_14 := r1_0.ext X14
  go_wp2_with fail
  refine (l_markInt64S _ (1) R _ _ (by omega) gt_14).mono ?_
  rintro e w15 ⟨rfl, gt_15, g15⟩
  have z15 := g15.size
  have X15 : Ext w w15 := Below.grown X14 g15 X14.size (fun j hj => Nat.le_trans (X5.size) (gt_14.lt j hj).1)
  have s0_15 := s0_14.kept g15 (s0_1.apart gt_14 (by omega))
  have s1_15 := s1_14.kept g15 (s1_2.apart gt_14 (by omega))
  have wt_15 := wt_14.kept g15 (wt_3.apart gt_14 (by omega))
  have x0x_15 := x0x_14.kept g15 (x0x_4.apart gt_14 (by omega))
  have x1x_15 := x1x_14.kept g15 (x1x_5.apart gt_14 (by omega))
  have t0_15 := t0_14.kept g15 (gt_6.apart' t0_14 (by omega))
  have t1_15 := t1_14.kept g15 (gt_6.apart' t1_14 (by omega))
  have r0_15 := r0_0.ext X15
  have r1_15 := r1_0.ext X15
  go_wp2_with fail
  refine (l_heldInt64S _ 1 R.length _ (by omega) gt_15.rd).mono ?_
  rintro e _ ⟨rfl, rfl⟩
  go_wp2_with fail
  refine (l_toInt64S _ xs0 _ (by omega) r0_15).mono ?_
  rintro e w16 ⟨u_y0, rfl, y0_16, x16⟩
  have z16 := x16.size
  have X16 : Ext w w16 := X15.trans x16
  have s0_16 := s0_15.ext x16
  have s1_16 := s1_15.ext x16
  have wt_16 := wt_15.ext x16
  have x0x_16 := x0x_15.ext x16
  have x1x_16 := x1x_15.ext x16
  have gt_16 := gt_15.ext x16
  have t0_16 := t0_15.ext x16
  have t1_16 := t1_15.ext x16
  have r0_16 := r0_0.ext X16
  have r1_16 := r1_0.ext X16
  go_wp2_with fail
  refine (l_toInt64S _ xs1 _ (by omega) r1_16).mono ?_
  rintro e w17 ⟨u_y1, rfl, y1_17, x17⟩
  have z17 := x17.size
  have X17 : Ext w w17 := X16.trans x17
  have s0_17 := s0_16.ext x17
  have s1_17 := s1_16.ext x17
  have wt_17 := wt_16.ext x17
  have x0x_17 := x0x_16.ext x17
  have x1x_17 := x1x_16.ext x17
  have gt_17 := gt_16.ext x17
  have t0_17 := t0_16.ext x17
  have t1_17 := t1_16.ext x17
  have y0_17 := y0_16.ext x17
  have r0_17 := r0_0.ext X17
  have r1_17 := r1_0.ext X17
  go_wp2_with fail
  refine (i_MeetSets _ xs0 _ xs1 _ y0_17.rd y1_17.rd ).mono ?_
  rintro e w18 ⟨u_ht, rfl, ht_18, x18⟩
  rw [← HR.out] at ht_18
  have z18 := x18.size
  have X18 : Ext w w18 := X17.trans x18
  have s0_18 := s0_17.ext x18
  have s1_18 := s1_17.ext x18
  have wt_18 := wt_17.ext x18
  have x0x_18 := x0x_17.ext x18
  have x1x_18 := x1x_17.ext x18
  have gt_18 := gt_17.ext x18
  have t0_18 := t0_17.ext x18
  have t1_18 := t1_17.ext x18
  have y0_18 := y0_17.ext x18
  have y1_18 := y1_17.ext x18
  have r0_18 := r0_0.ext X18
  have r1_18 := r1_0.ext X18
  go_wp2_with fail
  refine (l_eqInt64S_t _ _ R _ ht_18.rd wt_18.rd).mono ?_
  rintro e w19 ⟨rfl, d19⟩
  have x19 := d19.ext
  have z19 := x19.size
  have X19 : Ext w w19 := X18.trans x19
  have s0_19 := s0_18.ext x19
  have s1_19 := s1_18.ext x19
  have wt_19 := wt_18.ext x19
  have x0x_19 := x0x_18.ext x19
  have x1x_19 := x1x_18.ext x19
  have gt_19 := gt_18.ext x19
  have t0_19 := t0_18.ext x19
  have t1_19 := t1_18.ext x19
  have y0_19 := y0_18.ext x19
  have y1_19 := y1_18.ext x19
  have ht_19 := ht_18.ext x19
  have r0_19 := r0_0.ext X19
  have r1_19 := r1_0.ext X19
  go_wp2_with fail
  refine (l_heldInt64S _ 1 R.length _ (by omega) gt_19.rd).mono ?_
  rintro e _ ⟨rfl, rfl⟩
  go_wp2
  go_ret
  exact ⟨rfl, X19⟩

theorem s_MinusSets (va : Value) (xs : List Int) (vb : Value) (ys : List Int) (w : World) (ha : Rd w va xs) (hb : Rd w vb ys) : Calls Try.prog 14 #[va, vb] w (RetInts w (setB (fun a b => a && !b) xs ys)) := by
  have HA := Lib.hid ha
  have HB := Lib.hid hb
  clear ha hb
  obtain ⟨R, HR⟩ : ∃ R, Hid (R = setB (fun a b => a && !b) xs ys) := ⟨_, Lib.hid rfl⟩
  have HQ : Hid ((if validB xs 32 && validB ys 32 then xs.filter (fun x => hasB ys x == false) else []) = R) := Lib.hid (by
    rw [HR.out]
    cases h1 : validB xs 32
    · simp [setB, h1]
    · cases h2 : validB ys 32
      · simp [setB, h2]
      · exact (setB_in h1 h2 _ (fun x => by simp)).symm)
  rw [← HR.out]
  go_enter Try.func14, Try.ntmps14
  go_wp2_with fail
  refine (s_l01Both _ _ xs ys false _ HA.out HB.out).mono ?_
  rintro e w1 ⟨v, rfl, hown, hext⟩
  rw [HQ.out] at hown
  go_wp2
  go_ret
  exact ⟨_, rfl, hown, hext⟩
theorem l_MinusSets (w : World) (v0 : Value) (xs0 : List Int) (h0 : Rd w v0 xs0) (v1 : Value) (xs1 : List Int) (h1 : Rd w v1 xs1) :
    Calls Try.prog 4 #[v0, v1] w fun e w' => e = .returned (.bool true) ∧ Ext w w' := by
  have r0_0 := h0
  obtain ⟨ad0, cap0, rfl, hc0, hm0, _⟩ := h0
  have r1_0 := h1
  obtain ⟨ad1, cap1, rfl, hc1, hm1, _⟩ := h1
  by_cases hl0 : 1048576 < xs0.length
  · go_enter Try.func4, Try.ntmps4
    go_wp2
    go_ret
    exact ⟨rfl, Ext.refl _⟩
  by_cases hl1 : 1048576 < xs1.length
  · go_enter Try.func4, Try.ntmps4
    go_wp2
    go_ret
    exact ⟨rfl, Ext.refl _⟩
  have hbd := Lib.hid (show (setB (fun a b => a && !b) xs0 xs1).length ≤ 3000000 from setB_len (fun a b => a && !b) xs0 xs1)
  obtain ⟨R, HR⟩ : ∃ R : List Int, Hid (R = setB (fun a b => a && !b) xs0 xs1) := ⟨_, Lib.hid rfl⟩
  have hb : R.length ≤ 3000000 := by rw [HR.out]; exact hbd.out
  clear hbd
  have X0 : Ext w w := Ext.refl w
  go_enter Try.func4, Try.ntmps4
  go_wp2_with fail
  refine (l_toInt64S _ xs0 _ (by omega) r0_0).mono ?_
  rintro e w1 ⟨u_s0, rfl, s0_1, x1⟩
  have z1 := x1.size
  have X1 : Ext w w1 := X0.trans x1
  have r0_1 := r0_0.ext X1
  have r1_1 := r1_0.ext X1
  go_wp2_with fail
  refine (l_toInt64S _ xs1 _ (by omega) r1_1).mono ?_
  rintro e w2 ⟨u_s1, rfl, s1_2, x2⟩
  have z2 := x2.size
  have X2 : Ext w w2 := X1.trans x2
  have s0_2 := s0_1.ext x2
  have r0_2 := r0_0.ext X2
  have r1_2 := r1_0.ext X2
  go_wp2_with fail
  refine (s_MinusSets _ xs0 _ xs1 _ s0_2.rd s1_2.rd ).mono ?_
  rintro e w3 ⟨u_wt, rfl, wt_3, x3⟩
  rw [← HR.out] at wt_3
  have z3 := x3.size
  have X3 : Ext w w3 := X2.trans x3
  have s0_3 := s0_2.ext x3
  have s1_3 := s1_2.ext x3
  have r0_3 := r0_0.ext X3
  have r1_3 := r1_0.ext X3
  go_wp2_with fail
  refine (l_toInt64S _ xs0 _ (by omega) r0_3).mono ?_
  rintro e w4 ⟨u_x0x, rfl, x0x_4, x4⟩
  have z4 := x4.size
  have X4 : Ext w w4 := X3.trans x4
  have s0_4 := s0_3.ext x4
  have s1_4 := s1_3.ext x4
  have wt_4 := wt_3.ext x4
  have r0_4 := r0_0.ext X4
  have r1_4 := r1_0.ext X4
  go_wp2_with fail
  refine (l_toInt64S _ xs1 _ (by omega) r1_4).mono ?_
  rintro e w5 ⟨u_x1x, rfl, x1x_5, x5⟩
  have z5 := x5.size
  have X5 : Ext w w5 := X4.trans x5
  have s0_5 := s0_4.ext x5
  have s1_5 := s1_4.ext x5
  have wt_5 := wt_4.ext x5
  have x0x_5 := x0x_4.ext x5
  have r0_5 := r0_0.ext X5
  have r1_5 := r1_0.ext X5
  go_wp2_with fail
  refine (i_MinusSets _ xs0 _ xs1 _ x0x_5.rd x1x_5.rd ).mono ?_
  rintro e w6 ⟨u_gt, rfl, gt_6, x6⟩
  rw [← HR.out] at gt_6
  have z6 := x6.size
  have X6 : Ext w w6 := X5.trans x6
  have s0_6 := s0_5.ext x6
  have s1_6 := s1_5.ext x6
  have wt_6 := wt_5.ext x6
  have x0x_6 := x0x_5.ext x6
  have x1x_6 := x1x_5.ext x6
  have r0_6 := r0_0.ext X6
  have r1_6 := r1_0.ext X6
  go_wp2_with fail
  refine (l_eqInt64S_t _ _ R _ gt_6.rd wt_6.rd).mono ?_
  rintro e w7 ⟨rfl, d7⟩
  have x7 := d7.ext
  have z7 := x7.size
  have X7 : Ext w w7 := X6.trans x7
  have s0_7 := s0_6.ext x7
  have s1_7 := s1_6.ext x7
  have wt_7 := wt_6.ext x7
  have x0x_7 := x0x_6.ext x7
  have x1x_7 := x1x_6.ext x7
  have gt_7 := gt_6.ext x7
  have r0_7 := r0_0.ext X7
  have r1_7 := r1_0.ext X7
  go_wp2_with fail
  refine (l_toInt64S _ xs0 _ (by omega) r0_7).mono ?_
  rintro e w8 ⟨u_t0, rfl, t0_8, x8⟩
  have z8 := x8.size
  have X8 : Ext w w8 := X7.trans x8
  have s0_8 := s0_7.ext x8
  have s1_8 := s1_7.ext x8
  have wt_8 := wt_7.ext x8
  have x0x_8 := x0x_7.ext x8
  have x1x_8 := x1x_7.ext x8
  have gt_8 := gt_7.ext x8
  have r0_8 := r0_0.ext X8
  have r1_8 := r1_0.ext X8
  go_wp2_with fail
  refine (l_eqInt64S_t _ _ xs0 _ x0x_8.rd t0_8.rd).mono ?_
  rintro e w9 ⟨rfl, d9⟩
  have x9 := d9.ext
  have z9 := x9.size
  have X9 : Ext w w9 := X8.trans x9
  have s0_9 := s0_8.ext x9
  have s1_9 := s1_8.ext x9
  have wt_9 := wt_8.ext x9
  have x0x_9 := x0x_8.ext x9
  have x1x_9 := x1x_8.ext x9
  have gt_9 := gt_8.ext x9
  have t0_9 := t0_8.ext x9
  have r0_9 := r0_0.ext X9
  have r1_9 := r1_0.ext X9
  go_wp2_with fail
  refine (l_toInt64S _ xs1 _ (by omega) r1_9).mono ?_
  rintro e w10 ⟨u_t1, rfl, t1_10, x10⟩
  have z10 := x10.size
  have X10 : Ext w w10 := X9.trans x10
  have s0_10 := s0_9.ext x10
  have s1_10 := s1_9.ext x10
  have wt_10 := wt_9.ext x10
  have x0x_10 := x0x_9.ext x10
  have x1x_10 := x1x_9.ext x10
  have gt_10 := gt_9.ext x10
  have t0_10 := t0_9.ext x10
  have r0_10 := r0_0.ext X10
  have r1_10 := r1_0.ext X10
  go_wp2_with fail
  refine (l_eqInt64S_t _ _ xs1 _ x1x_10.rd t1_10.rd).mono ?_
  rintro e w11 ⟨rfl, d11⟩
  have x11 := d11.ext
  have z11 := x11.size
  have X11 : Ext w w11 := X10.trans x11
  have s0_11 := s0_10.ext x11
  have s1_11 := s1_10.ext x11
  have wt_11 := wt_10.ext x11
  have x0x_11 := x0x_10.ext x11
  have x1x_11 := x1x_10.ext x11
  have gt_11 := gt_10.ext x11
  have t0_11 := t0_10.ext x11
  have t1_11 := t1_10.ext x11
  have r0_11 := r0_0.ext X11
  have r1_11 := r1_0.ext X11
  go_wp2_with fail
  refine (l_markInt64S _ (1) xs0 _ _ (by omega) x0x_11).mono ?_
  rintro e w12 ⟨rfl, x0x_12, g12⟩
  have z12 := g12.size
  have X12 : Ext w w12 := Below.grown X11 g12 X11.size (fun j hj => Nat.le_trans (X3.size) (x0x_11.lt j hj).1)
  have s0_12 := s0_11.kept g12 (s0_1.apart x0x_11 (by omega))
  have s1_12 := s1_11.kept g12 (s1_2.apart x0x_11 (by omega))
  have wt_12 := wt_11.kept g12 (wt_3.apart x0x_11 (by omega))
  have x1x_12 := x1x_11.kept g12 (x0x_4.apart' x1x_11 (by omega))
  have gt_12 := gt_11.kept g12 (x0x_4.apart' gt_11 (by omega))
  have t0_12 := t0_11.kept g12 (x0x_4.apart' t0_11 (by omega))
  have t1_12 := t1_11.kept g12 (x0x_4.apart' t1_11 (by omega))
  have r0_12 := r0_0.ext X12
  have r1_12 := r1_0.ext X12
  go_wp2_with fail
  refine (l_markInt64S _ (1 + xs0.length) xs1 _ _ (by omega) x1x_12).mono ?_
  rintro e w13 ⟨rfl, x1x_13, g13⟩
  have z13 := g13.size
  have X13 : Ext w w13 := Below.grown X12 g13 X12.size (fun j hj => Nat.le_trans (X4.size) (x1x_12.lt j hj).1)
  have s0_13 := s0_12.kept g13 (s0_1.apart x1x_12 (by omega))
  have s1_13 := s1_12.kept g13 (s1_2.apart x1x_12 (by omega))
  have wt_13 := wt_12.kept g13 (wt_3.apart x1x_12 (by omega))
  have x0x_13 := x0x_12.kept g13 (x0x_4.apart x1x_12 (by omega))
  have gt_13 := gt_12.kept g13 (x1x_5.apart' gt_12 (by omega))
  have t0_13 := t0_12.kept g13 (x1x_5.apart' t0_12 (by omega))
  have t1_13 := t1_12.kept g13 (x1x_5.apart' t1_12 (by omega))
  have r0_13 := r0_0.ext X13
  have r1_13 := r1_0.ext X13
  go_wp2_with fail
  refine (l_eqInt64S_t _ _ R _ gt_13.rd wt_13.rd).mono ?_
  rintro e w14 ⟨rfl, d14⟩
  have x14 := d14.ext
  have z14 := x14.size
  have X14 : Ext w w14 := X13.trans x14
  have s0_14 := s0_13.ext x14
  have s1_14 := s1_13.ext x14
  have wt_14 := wt_13.ext x14
  have x0x_14 := x0x_13.ext x14
  have x1x_14 := x1x_13.ext x14
  have gt_14 := gt_13.ext x14
  have t0_14 := t0_13.ext x14
  have t1_14 := t1_13.ext x14
  have r0_14 := r0_0.ext X14
  have r1_14 := r1_0.ext X14
  go_wp2_with fail
  refine (l_markInt64S _ (1) R _ _ (by omega) gt_14).mono ?_
  rintro e w15 ⟨rfl, gt_15, g15⟩
  have z15 := g15.size
  have X15 : Ext w w15 := Below.grown X14 g15 X14.size (fun j hj => Nat.le_trans (X5.size) (gt_14.lt j hj).1)
  have s0_15 := s0_14.kept g15 (s0_1.apart gt_14 (by omega))
  have s1_15 := s1_14.kept g15 (s1_2.apart gt_14 (by omega))
  have wt_15 := wt_14.kept g15 (wt_3.apart gt_14 (by omega))
  have x0x_15 := x0x_14.kept g15 (x0x_4.apart gt_14 (by omega))
  have x1x_15 := x1x_14.kept g15 (x1x_5.apart gt_14 (by omega))
  have t0_15 := t0_14.kept g15 (gt_6.apart' t0_14 (by omega))
  have t1_15 := t1_14.kept g15 (gt_6.apart' t1_14 (by omega))
  have r0_15 := r0_0.ext X15
  have r1_15 := r1_0.ext X15
  go_wp2_with fail
  refine (l_heldInt64S _ 1 R.length _ (by omega) gt_15.rd).mono ?_
  rintro e _ ⟨rfl, rfl⟩
  go_wp2_with fail
  refine (l_toInt64S _ xs0 _ (by omega) r0_15).mono ?_
  rintro e w16 ⟨u_y0, rfl, y0_16, x16⟩
  have z16 := x16.size
  have X16 : Ext w w16 := X15.trans x16
  have s0_16 := s0_15.ext x16
  have s1_16 := s1_15.ext x16
  have wt_16 := wt_15.ext x16
  have x0x_16 := x0x_15.ext x16
  have x1x_16 := x1x_15.ext x16
  have gt_16 := gt_15.ext x16
  have t0_16 := t0_15.ext x16
  have t1_16 := t1_15.ext x16
  have r0_16 := r0_0.ext X16
  have r1_16 := r1_0.ext X16
  go_wp2_with fail
  refine (l_toInt64S _ xs1 _ (by omega) r1_16).mono ?_
  rintro e w17 ⟨u_y1, rfl, y1_17, x17⟩
  have z17 := x17.size
  have X17 : Ext w w17 := X16.trans x17
  have s0_17 := s0_16.ext x17
  have s1_17 := s1_16.ext x17
  have wt_17 := wt_16.ext x17
  have x0x_17 := x0x_16.ext x17
  have x1x_17 := x1x_16.ext x17
  have gt_17 := gt_16.ext x17
  have t0_17 := t0_16.ext x17
  have t1_17 := t1_16.ext x17
  have y0_17 := y0_16.ext x17
  have r0_17 := r0_0.ext X17
  have r1_17 := r1_0.ext X17
  go_wp2_with fail
  refine (i_MinusSets _ xs0 _ xs1 _ y0_17.rd y1_17.rd ).mono ?_
  rintro e w18 ⟨u_ht, rfl, ht_18, x18⟩
  rw [← HR.out] at ht_18
  have z18 := x18.size
  have X18 : Ext w w18 := X17.trans x18
  have s0_18 := s0_17.ext x18
  have s1_18 := s1_17.ext x18
  have wt_18 := wt_17.ext x18
  have x0x_18 := x0x_17.ext x18
  have x1x_18 := x1x_17.ext x18
  have gt_18 := gt_17.ext x18
  have t0_18 := t0_17.ext x18
  have t1_18 := t1_17.ext x18
  have y0_18 := y0_17.ext x18
  have y1_18 := y1_17.ext x18
  have r0_18 := r0_0.ext X18
  have r1_18 := r1_0.ext X18
  go_wp2_with fail
  refine (l_eqInt64S_t _ _ R _ ht_18.rd wt_18.rd).mono ?_
  rintro e w19 ⟨rfl, d19⟩
  have x19 := d19.ext
  have z19 := x19.size
  have X19 : Ext w w19 := X18.trans x19
  have s0_19 := s0_18.ext x19
  have s1_19 := s1_18.ext x19
  have wt_19 := wt_18.ext x19
  have x0x_19 := x0x_18.ext x19
  have x1x_19 := x1x_18.ext x19
  have gt_19 := gt_18.ext x19
  have t0_19 := t0_18.ext x19
  have t1_19 := t1_18.ext x19
  have y0_19 := y0_18.ext x19
  have y1_19 := y1_18.ext x19
  have ht_19 := ht_18.ext x19
  have r0_19 := r0_0.ext X19
  have r1_19 := r1_0.ext X19
  go_wp2_with fail
  refine (l_heldInt64S _ 1 R.length _ (by omega) gt_19.rd).mono ?_
  rintro e _ ⟨rfl, rfl⟩
  go_wp2
  go_ret
  exact ⟨rfl, X19⟩

end Go.Proofs.Ytlfeoglhhfppmaa
