/- ValidPermutation: the walks of the program and of the reference, and the law. No condition. -/
import Derived.Test.YtloacmfafccofaaPermOk
import Derived.Test.YtloacmfafccofaaSortLay
namespace Go.Proofs.Ytloacmfafccofaa
open Go.RowKit

theorem okP_iff {n : Int} : ∀ {xs seen : List Int}, okP n seen xs = true ↔ (∀ x ∈ xs, 0 ≤ x ∧ x ≤ n - 1 ∧ x ∉ seen) ∧ xs.Nodup
  | [], seen => by simp [okP]
  | x :: r, seen => by
    rw [okP, Bool.and_eq_true, Bool.and_eq_true, okP_iff, inB_iff, hasB, Bool.not_eq_true', decide_eq_false_iff_not, List.nodup_cons]
    constructor
    · rintro ⟨⟨h1, h2⟩, h3, h4⟩
      refine ⟨fun y hy => ?_, fun hx => ?_, h4⟩
      · rcases List.mem_cons.1 hy with rfl | hy
        · exact ⟨h1.1, h1.2, h2⟩
        · have := h3 y hy
          exact ⟨this.1, this.2.1, fun h => this.2.2 (List.mem_append_left _ h)⟩
      · exact (h3 x hx).2.2 (List.mem_append_right _ (List.mem_singleton.2 rfl))
    · rintro ⟨h1, h2, h3⟩
      have hx := h1 x (List.mem_cons_self ..)
      refine ⟨⟨⟨hx.1, hx.2.1⟩, hx.2.2⟩, fun y hy => ?_, h3⟩
      have := h1 y (List.mem_cons_of_mem _ hy)
      refine ⟨this.1, this.2.1, fun h => ?_⟩
      rcases List.mem_append.1 h with h | h
      · exact this.2.2 h
      · rw [List.mem_singleton] at h; subst h; exact h2 hy
theorem rises_nodup {xs : List Int} (h : Rises xs) : xs.Nodup := h.imp (by intro a b h; omega)
theorem perm_of_ok {xs : List Int} (h : okP xs.length [] xs = true) : xs.Perm (iota 0 xs.length) := by
  obtain ⟨h1, h2⟩ := okP_iff.1 h
  have h3 := (List.perm_ext_iff_of_nodup h2 (rises_nodup (filtTo_rises (hasB xs) xs.length))).2 (fun x => by
    simp only [filtTo, List.mem_filter, iota_mem, hasB, decide_eq_true_eq]
    constructor
    · intro hx; have := h1 x hx; exact ⟨by omega, hx⟩
    · exact fun h => h.2)
  have h4 : filtTo (hasB xs) xs.length = iota 0 xs.length := List.Sublist.eq_of_length List.filter_sublist (by rw [← h3.length_eq, iota_len])
  rw [h4] at h3
  exact h3
theorem ok_of_perm {xs : List Int} (h : xs.Perm (iota 0 xs.length)) : okP xs.length [] xs = true := by
  refine okP_iff.2 ⟨fun x hx => ?_, h.nodup_iff.2 (rises_nodup (iota_rises _ _))⟩
  have := iota_mem.1 (h.mem_iff.1 hx)
  exact ⟨by omega, by omega, by simp⟩
theorem srt_rises {xs : List Int} (h : xs.Nodup) : Rises (srt xs) := by
  have h1 := List.pairwise_mergeSort (le := fun x y : Int => decide (x ≤ y)) (by intro a b c; simp; omega) (by intro a b; simp; omega) xs
  have h2 : (srt xs).Nodup := (srt_perm xs).nodup_iff.2 h
  exact (h1.and h2).imp (by intro a b h; simp at h; omega)
theorem srt_iota {xs : List Int} : srt xs = iota 0 xs.length ↔ okP xs.length [] xs = true := by
  constructor
  · intro h
    exact ok_of_perm (by rw [← h]; exact (srt_perm xs).symm)
  · intro h
    have h1 := perm_of_ok h
    refine rises_ext (srt_rises (okP_iff.1 h).2) (iota_rises _ _) fun x => ?_
    rw [(srt_perm xs).mem_iff, h1.mem_iff]
def upTo (zs : List Int) (k : Nat) : Prop := ∀ i (h : i < zs.length), i < k → zs[i] = (i : Int)
theorem upTo_end {zs : List Int} (h : upTo zs zs.length) : zs = iota 0 zs.length := by
  apply List.ext_getElem (by rw [iota_len])
  intro i h1 h2
  rw [iota_get, h i h1 h1]; omega
set_option maxHeartbeats 400000 in
theorem i_ValidPermutation (v : Value) (xs : List Int) (w : World) (h : Rd w v xs) (hn : xs.length ≤ 100000000) :
    Calls Try.prog 47 #[v] w fun e w' => e = .returned (.bool (validP xs)) ∧ Ext w w' := by
  have HRD := Lib.hid h
  obtain ⟨a, cap, rfl, hc, hm, _⟩ := h
  obtain ⟨N, HN⟩ : ∃ N, Hid (N = xs.length) := ⟨_, Lib.hid rfl⟩
  rw [← HN.out] at hc hn HRD ⊢
  go_enter Try.func47, Try.ntmps47
  go_wp2_with fail
  refine (c_Clone _ xs _ (by rw [← HN.out]; omega) HRD.out).mono ?_
  rintro e w1 ⟨v1, rfl, hown1, hext1⟩
  go_wp2_with fail
  refine (c_Sort _ xs _ _ (by rw [← HN.out]; omega) hown1).mono ?_
  rintro e w2 ⟨rfl, hown2, hgr2⟩
  have HE : Hid (Ext w w2) := Lib.hid (ext_app (e := 2) hext1 hown1 hgr2)
  obtain ⟨zs, HZS⟩ : ∃ zs, Hid (zs = srt xs) := ⟨_, Lib.hid rfl⟩
  rw [← HZS.out] at hown2
  have HZL : Hid (zs.length = N) := Lib.hid (by rw [HZS.out, srt_len, HN.out])
  obtain ⟨a2, cap2, hv2, hc2, hm2, hr2⟩ := hown2.rd
  have HC : Hid (0 < N → ∃ b o, a2 = some ⟨b, o, none⟩ ∧ b < w2.heap.size ∧ ∀ i (h : i < zs.length), w2.cell? ⟨b, o + i, none⟩ = some (.int .i64 zs[i])) := Lib.hid (fun hk => hr2 (by rw [HZL.out]; exact hk))
  clear hr2 hown1 hown2 hgr2 hext1
  rw [HZL.out] at hv2 hc2
  subst hv2
  go_wp2
  go_loop [12] (fun i => ∃ k : Nat, k ≤ N ∧ i = .int .i64 k ∧ Hid (upTo zs k)) (fun i => N - (intOf i).toNat)
  case atStart => exact ⟨0, by omega, rfl, Lib.hid (fun i hi h => by omega)⟩
  case round =>
    obtain ⟨k, hk, rfl, hmid⟩ := hrel
    by_cases hlt : k < N
    · have hlt' : k < zs.length := by rw [HZL.out]; exact hlt
      obtain ⟨b, o, rfl, hb, hall⟩ := HC.out (by omega)
      have hx := hall k hlt'
      obtain ⟨z, HZ⟩ : ∃ z, Hid (z = zs[k]) := ⟨_, Lib.hid rfl⟩
      rw [← HZ.out] at hx
      clear hall
      by_cases he : z = (k : Int)
      · have G : Hid (upTo zs (k + 1)) := Lib.hid (by
          intro i hi h1
          by_cases h2 : i = k
          · subst h2; rw [← HZ.out, he]
          · exact hmid.out i hi (by omega))
        have heq : (z != (k : Int)) = false := by simp [he]
        clear he hmid
        go_wp2
        exact ⟨⟨k + 1, by omega, by go_num, G⟩, by simp only [intOf]; omega⟩
      · have G : Hid (validP xs = false) := Lib.hid (by
          have h1 : ¬ okP xs.length [] xs = true := by
            intro h
            have h2 := srt_iota.2 h
            rw [← HZS.out] at h2
            apply he
            rw [HZ.out]
            simp only [h2]
            rw [iota_get]; omega
          rw [validP]; simp at h1; rw [h1]; simp)
        have heq : (z != (k : Int)) = true := by simpa using he
        clear he hmid
        go_wp2
        go_ret
        exact ⟨ret_bool G.out.symm, HE.out⟩
    · have G : Hid (validP xs = decide ((N : Int) ≤ 32)) := Lib.hid (by
        have h1 : okP xs.length [] xs = true := by
          refine srt_iota.1 ?_
          rw [← HZS.out, ← HN.out, ← HZL.out]
          refine upTo_end ?_
          have := hmid.out
          rw [show k = zs.length from by rw [HZL.out]; omega] at this
          exact this
        rw [validP, h1, Bool.and_true, ← HN.out]
        congr 1
        simp; omega)
      clear hmid
      go_wp2
      go_ret
      exact ⟨ret_bool G.out.symm, HE.out⟩
end Go.Proofs.Ytloacmfafccofaa
