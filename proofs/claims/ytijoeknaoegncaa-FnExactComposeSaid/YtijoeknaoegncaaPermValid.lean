/- ValidPermutation: the walks of the program and of the reference, and the law. No condition. -/
import Derived.Test.YtijoeknaoegncaaPermOk
import Derived.Test.YtijoeknaoegncaaSortLay
namespace Go.Proofs.Ytijoeknaoegncaa
open Go.RowKit

theorem okP_iff {n : Int} : ∀ {xs seen : List Int}, okP n seen xs = true ↔ (∀ x ∈ xs, 0 ≤ x ∧ x ≤ n - 1 ∧ x ∉ seen) ∧ xs.Nodup
  | [], seen => by simp [okP]
  | x :: r, seen => by
    rw [okP, Bool.and_eq_true, Bool.and_eq_true, okP_iff, inB_iff, hasB, Bool.not_eq_true', decide_eq_false_iff_not, List.nodup_cons]
    constructor
    · rintro ⟨⟨h1, h2⟩, h3, h4⟩
      refine ⟨fun y hy => ?_, fun hx => ?_, h4⟩
      · rcases List.mem_cons.1 hy with rfl | hy
        · exact ⟨h1.1, h1.2, h2⟩
        · have := h3 y hy
          exact ⟨this.1, this.2.1, fun h => this.2.2 (List.mem_append_left _ h)⟩
      · exact (h3 x hx).2.2 (List.mem_append_right _ (List.mem_singleton.2 rfl))
    · rintro ⟨h1, h2, h3⟩
      have hx := h1 x (List.mem_cons_self ..)
      refine ⟨⟨⟨hx.1, hx.2.1⟩, hx.2.2⟩, fun y hy => ?_, h3⟩
      have := h1 y (List.mem_cons_of_mem _ hy)
      refine ⟨this.1, this.2.1, fun h => ?_⟩
      rcases List.mem_append.1 h with h | h
      · exact this.2.2 h
      · rw [List.mem_singleton] at h; subst h; exact h2 hy
theorem rises_nodup {xs : List Int} (h : Rises xs) : xs.Nodup := h.imp (by intro a b h; omega)
theorem perm_of_ok {xs : List Int} (h : okP xs.length [] xs = true) : xs.Perm (iota 0 xs.length) := by
  obtain ⟨h1, h2⟩ := okP_iff.1 h
  have h3 := (List.perm_ext_iff_of_nodup h2 (rises_nodup (filtTo_rises (hasB xs) xs.length))).2 (fun x => by
    simp only [filtTo, List.mem_filter, iota_mem, hasB, decide_eq_true_eq]
    constructor
    · intro hx; have := h1 x hx; exact ⟨by omega, hx⟩
    · exact fun h => h.2)
  have h4 : filtTo (hasB xs) xs.length = iota 0 xs.length := List.Sublist.eq_of_length List.filter_sublist (by rw [← h3.length_eq, iota_len])
  rw [h4] at h3
  exact h3
theorem ok_of_perm {xs : List Int} (h : xs.Perm (iota 0 xs.length)) : okP xs.length [] xs = true := by
  refine okP_iff.2 ⟨fun x hx => ?_, h.nodup_iff.2 (rises_nodup (iota_rises _ _))⟩
  have := iota_mem.1 (h.mem_iff.1 hx)
  exact ⟨by omega, by omega, by simp⟩
theorem srt_rises {xs : List Int} (h : xs.Nodup) : Rises (srt xs) := by
  have h1 := List.pairwise_mergeSort (le := fun x y : Int => decide (x ≤ y)) (by intro a b c; simp; omega) (by intro a b; simp; omega) xs
  have h2 : (srt xs).Nodup := (srt_perm xs).nodup_iff.2 h
  exact (h1.and h2).imp (by intro a b h; simp at h; omega)
theorem srt_iota {xs : List Int} : srt xs = iota 0 xs.length ↔ okP xs.length [] xs = true := by
  constructor
  · intro h
    exact ok_of_perm (by rw [← h]; exact (srt_perm xs).symm)
  · intro h
    have h1 := perm_of_ok h
    refine rises_ext (srt_rises (okP_iff.1 h).2) (iota_rises _ _) fun x => ?_
    rw [(srt_perm xs).mem_iff, h1.mem_iff]
def upTo (zs : List Int) (k : Nat) : Prop := ∀ i (h : i < zs.length), i < k → zs[i] = (i : Int)
theorem upTo_end {zs : List Int} (h : upTo zs zs.length) : zs = iota 0 zs.length := by
  apply List.ext_getElem (by rw [iota_len])
  intro i h1 h2
  rw [iota_get, h i h1 h1]; omega
set_option maxHeartbeats 400000 in
theorem i_ValidPermutation (v : Value) (xs : List Int) (w : World) (h : Rd w v xs) (hn : xs.length ≤ 100000000) :
    Calls Try.prog 15 #[v] w fun e w' => e = .returned (.bool (validP xs)) ∧ Ext w w' := by
  have HRD := Lib.hid h
  obtain ⟨a, cap, rfl, hc, hm, _⟩ := h
  obtain ⟨N, HN⟩ : ∃ N, Hid (N = xs.length) := ⟨_, Lib.hid rfl⟩
  rw [← HN.out] at hc hn HRD ⊢
  go_enter Try.func15, Try.ntmps15
  go_wp2_with fail
  refine (c_Clone _ xs _ (by rw [← HN.out]; omega) HRD.out).mono ?_
  rintro e w1 ⟨v1, rfl, hown1, hext1⟩
  go_wp2_with fail
  refine (c_Sort _ xs _ _ (by rw [← HN.out]; omega) hown1).mono ?_
  rintro e w2 ⟨rfl, hown2, hgr2⟩
  have HE : Hid (Ext w w2) := Lib.hid (ext_app (e := 2) hext1 hown1 hgr2)
  obtain ⟨zs, HZS⟩ : ∃ zs, Hid (zs = srt xs) := ⟨_, Lib.hid rfl⟩
  rw [← HZS.out] at hown2
  have HZL : Hid (zs.length = N) := Lib.hid (by rw [HZS.out, srt_len, HN.out])
  obtain ⟨a2, cap2, hv2, hc2, hm2, hr2⟩ := hown2.rd
  have HC : Hid (0 < N → ∃ b o, a2 = some ⟨b, o, none⟩ ∧ b < w2.heap.size ∧ ∀ i (h : i < zs.length), w2.cell? ⟨b, o + i, none⟩ = some (.int .i64 zs[i])) := Lib.hid (fun hk => hr2 (by rw [HZL.out]; exact hk))
  clear hr2 hown1 hown2 hgr2 hext1
  rw [HZL.out] at hv2 hc2
  subst hv2
  go_wp2
  go_loop [12] (fun i => ∃ k : Nat, k ≤ N ∧ i = .int .i64 k ∧ Hid (upTo zs k)) (fun i => N - (intOf i).toNat)
  case atStart => exact ⟨0, by omega, rfl, Lib.hid (fun i hi h => by omega)⟩
  case round =>
    obtain ⟨k, hk, rfl, hmid⟩ := hrel
    by_cases hlt : k < N
    · have hlt' : k < zs.length := by rw [HZL.out]; exact hlt
      obtain ⟨b, o, rfl, hb, hall⟩ := HC.out (by omega)
      have hx := hall k hlt'
      obtain ⟨z, HZ⟩ : ∃ z, Hid (z = zs[k]) := ⟨_, Lib.hid rfl⟩
      rw [← HZ.out] at hx
      clear hall
      by_cases he : z = (k : Int)
      · have G : Hid (upTo zs (k + 1)) := Lib.hid (by
          intro i hi h1
          by_cases h2 : i = k
          · subst h2; rw [← HZ.out, he]
          · exact hmid.out i hi (by omega))
        have heq : (z != (k : Int)) = false := by simp [he]
        clear he hmid
        go_wp2
        exact ⟨⟨k + 1, by omega, by go_num, G⟩, by simp only [intOf]; omega⟩
      · have G : Hid (validP xs = false) := Lib.hid (by
          have h1 : ¬ okP xs.length [] xs = true := by
            intro h
            have h2 := srt_iota.2 h
            rw [← HZS.out] at h2
            apply he
            rw [HZ.out]
            simp only [h2]
            rw [iota_get]; omega
          rw [validP]; simp at h1; rw [h1]; simp)
        have heq : (z != (k : Int)) = true := by simpa using he
        clear he hmid
        go_wp2
        go_ret
        exact ⟨ret_bool G.out.symm, HE.out⟩
    · have G : Hid (validP xs = decide ((N : Int) ≤ 32)) := Lib.hid (by
        have h1 : okP xs.length [] xs = true := by
          refine srt_iota.1 ?_
          rw [← HZS.out, ← HN.out, ← HZL.out]
          refine upTo_end ?_
          have := hmid.out
          rw [show k = zs.length from by rw [HZL.out]; omega] at this
          exact this
        rw [validP, h1, Bool.and_true, ← HN.out]
        congr 1
        simp; omega)
      clear hmid
      go_wp2
      go_ret
      exact ⟨ret_bool G.out.symm, HE.out⟩
theorem s_ValidPermutation (v : Value) (xs : List Int) (w : World) (h : Rd w v xs) : Calls Try.prog 13 #[v] w fun e w' => e = .returned (.bool (validP xs)) ∧ Drawn w w' := by
  go_enter Try.func13, Try.ntmps13
  go_wp2_with fail
  refine (s_l04Ok _ xs _ h).mono ?_
  rintro e w1 ⟨rfl, hd⟩
  go_wp2
  go_ret
  exact ⟨rfl, hd⟩
theorem l_ValidPermutation (w : World) (v0 : Value) (xs0 : List Int) (h0 : Rd w v0 xs0) :
    Calls Try.prog 3 #[v0] w fun e w' => e = .returned (.bool true) ∧ Ext w w' := by
  have r0_0 := h0
  obtain ⟨ad0, cap0, rfl, hc0, hm0, _⟩ := h0
  by_cases hl0 : 1048576 < xs0.length
  · go_enter Try.func3, Try.ntmps3
    go_wp2
    go_ret
    exact ⟨rfl, Ext.refl _⟩
  have X0 : Ext w w := Ext.refl w
  go_enter Try.func3, Try.ntmps3
  go_wp2_with fail
  refine (l_toInt64S _ xs0 _ (by omega) r0_0).mono ?_
  rintro e w1 ⟨u_s0, rfl, s0_1, x1⟩
  have z1 := x1.size
  have X1 : Ext w w1 := X0.trans x1
  have r0_1 := r0_0.ext X1
  go_wp2_with fail
  refine (s_ValidPermutation _ xs0 _ s0_1.rd ).mono ?_
  rintro e w2 ⟨rfl, d2⟩
  have x2 := d2.ext
  have z2 := x2.size
  have X2 : Ext w w2 := X1.trans x2
  have s0_2 := s0_1.ext x2
  have r0_2 := r0_0.ext X2
  go_wp2_with fail
  refine (l_toInt64S _ xs0 _ (by omega) r0_2).mono ?_
  rintro e w3 ⟨u_x0x, rfl, x0x_3, x3⟩
  have z3 := x3.size
  have X3 : Ext w w3 := X2.trans x3
  have s0_3 := s0_2.ext x3
  have r0_3 := r0_0.ext X3
  go_wp2_with fail
  refine (i_ValidPermutation _ xs0 _ x0x_3.rd (by omega)).mono ?_
  rintro e w4 ⟨rfl, x4⟩
  have z4 := x4.size
  have X4 : Ext w w4 := X3.trans x4
  have s0_4 := s0_3.ext x4
  have x0x_4 := x0x_3.ext x4
  have r0_4 := r0_0.ext X4
  go_wp2_with fail
  refine (l_toInt64S _ xs0 _ (by omega) r0_4).mono ?_
  rintro e w5 ⟨u_t0, rfl, t0_5, x5⟩
  have z5 := x5.size
  have X5 : Ext w w5 := X4.trans x5
  have s0_5 := s0_4.ext x5
  have x0x_5 := x0x_4.ext x5
  have r0_5 := r0_0.ext X5
  go_wp2_with fail
  refine (l_eqInt64S_t _ _ xs0 _ x0x_5.rd t0_5.rd).mono ?_
  rintro e w6 ⟨rfl, d6⟩
  have x6 := d6.ext
  have z6 := x6.size
  have X6 : Ext w w6 := X5.trans x6
  have s0_6 := s0_5.ext x6
  have x0x_6 := x0x_5.ext x6
  have t0_6 := t0_5.ext x6
  have r0_6 := r0_0.ext X6
  go_wp2
  go_ret
  exact ⟨rfl, X6⟩

end Go.Proofs.Ytijoeknaoegncaa
