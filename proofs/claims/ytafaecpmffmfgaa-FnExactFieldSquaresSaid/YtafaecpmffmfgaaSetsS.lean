/- MeetSets, MinusSets, UnionSets: the walks of the reference, and the laws. No condition. -/
import Derived.Test.YtafaecpmffmfgaaSets
import Derived.Test.YtafaecpmffmfgaaOwnCp
namespace Go.Proofs.Ytafaecpmffmfgaa
open Go.RowKit

set_option maxHeartbeats 400000 in
theorem s_l00Put (v : Value) (xs : List Int) (n : Int) (w : World) (hn : xs.length ≤ 1000000) (h : Rd w v xs) : Calls Try.prog 92 #[v, .int .i64 n] w (RetInts w (putL n false xs)) := by
  obtain ⟨a, cap, rfl, hc, hm, hr⟩ := h
  obtain ⟨N, HN⟩ : ∃ N, Hid (N = xs.length) := ⟨_, Lib.hid rfl⟩
  have HC : Hid (0 < N → ∃ b o, a = some ⟨b, o, none⟩ ∧ b < w.heap.size ∧ ∀ i (h : i < xs.length), w.cell? ⟨b, o + i, none⟩ = some (.int .i64 xs[i])) := Lib.hid (fun hk => hr (by rw [← HN.out]; exact hk))
  obtain ⟨R, HR⟩ : ∃ R, Hid (R = putL n false xs) := ⟨_, Lib.hid rfl⟩
  clear hr
  rw [← HN.out] at hc hn ⊢
  rw [← HR.out]
  go_enter Try.func92, Try.ntmps92
  go_wp2
  go_loopw [5, 6, 7] (fun v d q wr => ∃ (k : Nat) (D : Bool) (acc : List Int), k ≤ N ∧ q = .int .i64 k ∧ d = .bool D ∧ Hid (acc.length ≤ k + D.toNat) ∧ Hid (R = acc ++ putL n D (xs.drop k)) ∧ Hid (Own wr w.heap.size v acc) ∧ Hid (Ext w wr)) (fun _ _ q _ => N - (intOf q).toNat)
  case atStart => exact ⟨0, false, [], by omega, rfl, rfl, Lib.hid (by simp), Lib.hid (by simpa using HR.out), Lib.hid (OwnV.empty _ _), Lib.hid (ext_alloc _ _)⟩
  case round =>
    obtain ⟨k, D, acc, hk, rfl, rfl, hal, hmid, hown, hext⟩ := hrel
    by_cases hlt : k < N
    · have hlt' : k < xs.length := by rw [← HN.out]; exact hlt
      obtain ⟨b, o, rfl, hb, hall⟩ := HC.out (by omega)
      have hx := (hext.out.cell (p := ⟨b, o + k, none⟩) hb).trans (hall k hlt')
      have HD : Hid (xs.drop k = xs[k] :: xs.drop (k + 1)) := Lib.hid (drop_get hlt')
      obtain ⟨z, HZ⟩ : ∃ z, Hid (z = xs[k]) := ⟨_, Lib.hid rfl⟩
      rw [← HZ.out] at hx HD
      clear hall
      have hown1 := hown.out
      have hz := hext.out.size
      have hal1 : acc.length ≤ k + 1 := by have := hal.out; cases D <;> simp at this <;> omega
      have hal0 : Hid (D = false → acc.length ≤ k) := Lib.hid (by have := hal.out; intro h; subst h; simpa using this)
      have hsz : b < w.heap.size := hb
      cases D
      · by_cases h1 : n ≤ z
        · by_cases h2 : n < z
          · have HM : Hid (R = (acc ++ [n]) ++ [z] ++ putL n true (xs.drop (k + 1))) := Lib.hid (by rw [hmid.out, HD.out, putL, if_pos h1, if_pos h2]; simp)
            clear hmid HD hal
            have HXW := Lib.hid ((hext.out.cell (p := ⟨b, o + k, none⟩) hb).symm.trans hx)
            go_wp2_with (first | (at_builtin; refine wp_app1 _ rfl _ _ rfl _ _ (acc ++ [n]) rfl hown3 z rfl (by simp; omega) hz2 ?_; intro v' w' hown4 hgr4) | (at_builtin; refine wp_app1 _ rfl _ _ rfl _ _ acc rfl hown1 n rfl (by omega) hz ?_; intro v' w' hown3 hgr; have HE : Hid (Ext w w') := Lib.hid (ext_app (e := 2) hext.out hown1 hgr); have hx2 := (HE.out.cell (p := ⟨b, o + k, none⟩) hb).trans HXW.out; have hz2 := HE.out.size; clear hx))
            have HO := Lib.hid hown4
            have HE2 : Hid (Ext w w') := Lib.hid (ext_app (e := 2) HE.out hown3 hgr4)
            clear hown3 hgr hown4 hgr4 hown1
            go_wp2
            exact ⟨⟨k + 1, true, acc ++ [n] ++ [z], by omega, by go_num, rfl, Lib.hid (by have := hal0.out rfl; simp; omega), HM, HO, HE2⟩, by simp only [intOf]; omega⟩
          · have HM : Hid (R = acc ++ [z] ++ putL n true (xs.drop (k + 1))) := Lib.hid (by rw [hmid.out, HD.out, putL, if_pos h1, if_neg h2]; simp)
            have h3 : z ≤ n := by omega
            clear hmid HD hal
            go_wp2_with (at_builtin; refine wp_app1 _ rfl _ _ rfl _ _ acc rfl hown1 z rfl (by omega) hz ?_; intro v' w' hown3 hgr)
            have HO := Lib.hid hown3
            have HE : Hid (Ext w w') := Lib.hid (ext_app (e := 2) hext.out hown1 hgr)
            clear hown3 hgr hown1
            go_wp2
            exact ⟨⟨k + 1, true, acc ++ [z], by omega, by go_num, rfl, Lib.hid (by have := hal0.out rfl; simp; omega), HM, HO, HE⟩, by simp only [intOf]; omega⟩
        · have HM : Hid (R = acc ++ [z] ++ putL n false (xs.drop (k + 1))) := Lib.hid (by rw [hmid.out, HD.out, putL, if_neg h1]; simp)
          have h3 : z < n := by omega
          clear hmid HD hal
          go_wp2_with (at_builtin; refine wp_app1 _ rfl _ _ rfl _ _ acc rfl hown1 z rfl (by omega) hz ?_; intro v' w' hown3 hgr)
          have HO := Lib.hid hown3
          have HE : Hid (Ext w w') := Lib.hid (ext_app (e := 2) hext.out hown1 hgr)
          clear hown3 hgr hown1
          go_wp2
          exact ⟨⟨k + 1, false, acc ++ [z], by omega, by go_num, rfl, Lib.hid (by have := hal0.out rfl; simp; omega), HM, HO, HE⟩, by simp only [intOf]; omega⟩
      · have HM : Hid (R = acc ++ [z] ++ putL n true (xs.drop (k + 1))) := Lib.hid (by rw [hmid.out, HD.out, putL]; simp)
        clear hmid HD hal
        go_wp2_with (at_builtin; refine wp_app1 _ rfl _ _ rfl _ _ acc rfl hown1 z rfl (by omega) hz ?_; intro v' w' hown3 hgr)
        have HO := Lib.hid hown3
        have HE : Hid (Ext w w') := Lib.hid (ext_app (e := 2) hext.out hown1 hgr)
        clear hown3 hgr hown1
        go_wp2
        exact ⟨⟨k + 1, true, acc ++ [z], by omega, by go_num, rfl, Lib.hid (by simp; omega), HM, HO, HE⟩, by simp only [intOf]; omega⟩
    · have hd : xs.drop k = [] := List.drop_of_length_le (by rw [← HN.out]; omega)
      have hown1 := hown.out
      have hz := hext.out.size
      have hal1 : acc.length ≤ k + 1 := by have := hal.out; cases D <;> simp at this <;> omega
      cases D
      · have HM : Hid (R = acc ++ [n]) := Lib.hid (by rw [hmid.out, hd]; simp [putL])
        clear hmid hd hal
        go_wp2_with (at_builtin; refine wp_app1 _ rfl _ _ rfl _ _ acc rfl hown1 n rfl (by omega) hz ?_; intro v' w' hown3 hgr)
        go_ret
        exact ⟨_, rfl, by rw [HM.out]; exact hown3, ext_app (e := 2) hext.out hown1 hgr⟩
      · have HM : Hid (R = acc) := Lib.hid (by rw [hmid.out, hd]; simp [putL])
        clear hmid hd hal
        go_wp2
        go_ret
        exact ⟨_, rfl, by rw [HM.out]; exact hown1, hext.out⟩
end Go.Proofs.Ytafaecpmffmfgaa
