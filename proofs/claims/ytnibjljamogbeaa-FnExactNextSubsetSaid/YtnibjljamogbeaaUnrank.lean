/- UnrankSubset: the walks of the program and of the reference, and the law. No condition. -/
import Derived.Test.YtnibjljamogbeaaRankMath
import Derived.Test.YtnibjljamogbeaaSlices
import Derived.Test.YtnibjljamogbeaaSize
namespace Go.Proofs.Ytnibjljamogbeaa
open Go.RowKit

abbrev casts (ns : List Nat) : List Int := ns.map (fun x : Nat => (x : Int))
def unrB (n k r : Int) : Bool := inB n 0 32 && (inB k 0 n && inB r 0 (choose n k - 1))
def unrOut (n k r : Int) : List Int := if unrB n k r then casts (ur n.toNat n.toNat 0 k.toNat r.toNat) else []
def unrCode (n k r : Int) : Int := if unrB n k r then 0 else 2
/-- Half way: acc has been found; the numbers from x on are left. -/
def urMid (N K r0 : Nat) (acc : List Nat) (x : Nat) (r : Int) : Prop :=
  ∃ q : Nat, r = (q : Int) ∧ x ≤ N ∧ acc.length ≤ K ∧ ur N N 0 K r0 = acc ++ ur N (N - x) x (K - acc.length) q ∧ q < binom (N - x) (K - acc.length)
theorem urMid_start {N K r0 : Nat} (h : r0 < binom N K) : urMid N K r0 [] 0 r0 := ⟨r0, rfl, by omega, by simp, by simp, by simpa using h⟩
theorem urMid_end {N K r0 : Nat} {acc : List Nat} {x : Nat} {r : Int} (h : urMid N K r0 acc x r) (he : K ≤ acc.length) : ur N N 0 K r0 = acc := by
  obtain ⟨q, h1, h2, h3, h4, h5⟩ := h
  rw [h4, show K - acc.length = 0 from by omega]
  cases N - x <;> simp [ur]
theorem urMid_lt {N K r0 : Nat} {acc : List Nat} {x : Nat} {r : Int} (h : urMid N K r0 acc x r) (he : acc.length < K) : x < N := by
  obtain ⟨q, h1, h2, h3, h4, h5⟩ := h
  rcases Nat.lt_or_ge x N with h6 | h6
  · exact h6
  · rw [show N - x = 0 from by omega] at h5
    obtain ⟨m, hm⟩ : ∃ m, K - acc.length = m + 1 := ⟨K - acc.length - 1, by omega⟩
    rw [hm] at h5
    simp [binom] at h5
theorem urMid_bd {N K r0 : Nat} {acc : List Nat} {x : Nat} {r : Int} (h : urMid N K r0 acc x r) (hN : N ≤ 32) : 0 ≤ r ∧ r ≤ 4294967297 := by
  obtain ⟨q, h1, h2, h3, h4, h5⟩ := h
  have := binom_le (N - x) (K - acc.length)
  have := Nat.pow_le_pow_right (n := 2) (by omega) (show N - x ≤ 32 by omega)
  omega
theorem urMid_take {N K r0 : Nat} {acc : List Nat} {x : Nat} {r : Int} (h : urMid N K r0 acc x r) (he : acc.length < K) (hr : r < (binom (N - 1 - x) (K - 1 - acc.length) : Nat)) : urMid N K r0 (acc ++ [x]) (x + 1) r := by
  have hx := urMid_lt h he
  obtain ⟨q, h1, h2, h3, h4, h5⟩ := h
  obtain ⟨f, hf⟩ : ∃ f, N - x = f + 1 := ⟨N - x - 1, by omega⟩
  have hq : q < binom (N - 1 - x) (K - acc.length - 1) := by rw [show K - acc.length - 1 = K - 1 - acc.length from by omega]; omega
  refine ⟨q, h1, by omega, by simp; omega, ?_, ?_⟩
  · rw [h4, hf, ur, if_neg (by omega), if_pos hq, show N - (x + 1) = f from by omega, List.length_append, List.length_singleton, show K - acc.length - 1 = K - (acc.length + 1) from by omega]
    simp
  · rw [List.length_append, List.length_singleton, show N - (x + 1) = N - 1 - x from by omega, show K - (acc.length + 1) = K - acc.length - 1 from by omega]
    exact hq
theorem urMid_skip {N K r0 : Nat} {acc : List Nat} {x : Nat} {r : Int} (h : urMid N K r0 acc x r) (he : acc.length < K) (hr : ¬ r < (binom (N - 1 - x) (K - 1 - acc.length) : Nat)) : urMid N K r0 acc (x + 1) (r - (binom (N - 1 - x) (K - 1 - acc.length) : Nat)) := by
  have hx := urMid_lt h he
  obtain ⟨q, h1, h2, h3, h4, h5⟩ := h
  obtain ⟨f, hf⟩ : ∃ f, N - x = f + 1 := ⟨N - x - 1, by omega⟩
  obtain ⟨m, hm⟩ : ∃ m, K - acc.length = m + 1 := ⟨K - acc.length - 1, by omega⟩
  rw [hf, hm, binom_succ] at h5
  rw [show N - 1 - x = f from by omega, show K - 1 - acc.length = m from by omega] at hr ⊢
  refine ⟨q - binom f m, by omega, by omega, h3, ?_, ?_⟩
  · rw [h4, hf, hm, ur, if_neg (by omega), if_neg (by rw [show N - 1 - x = f from by omega, Nat.add_sub_cancel]; omega), show N - (x + 1) = f from by omega, show N - 1 - x = f from by omega, Nat.add_sub_cancel]
  · rw [show N - (x + 1) = f from by omega, hm]; omega

set_option maxHeartbeats 400000 in
theorem i_subset (n k r : Int) (w : World) (hn : 0 ≤ n) (hn' : n ≤ 32) (hk : 0 ≤ k) (hk' : k ≤ n) (hr : 0 ≤ r) (hr' : r ≤ choose n k - 1) : Calls Try.prog 37 #[.int .i64 n, .int .i64 k, .int .i64 r] w (RetIntsI w (casts (ur n.toNat n.toNat 0 k.toNat r.toNat)) 0) := by
  obtain ⟨N, rfl⟩ := Int.eq_ofNat_of_zero_le hn
  obtain ⟨K, rfl⟩ := Int.eq_ofNat_of_zero_le hk
  obtain ⟨r0, rfl⟩ := Int.eq_ofNat_of_zero_le hr
  have HS : Hid (urMid N K r0 [] 0 r0) := Lib.hid (urMid_start (by
    rw [choose_nat N K rfl rfl (by omega)] at hr'; omega))
  obtain ⟨RES, HRES⟩ : ∃ RES, Hid (RES = casts (ur (N : Int).toNat (N : Int).toNat 0 (K : Int).toNat (r0 : Int).toNat)) := ⟨_, Lib.hid rfl⟩
  have HRES2 : Hid (RES = casts (ur N N 0 K r0)) := Lib.hid (by rw [HRES.out]; simp)
  rw [← HRES.out]
  have u1 : inB (N : Int) 0 32 = true := inB_t ⟨by omega, by omega⟩
  have u2 : inB (K : Int) 0 (N : Int) = true := inB_t ⟨by omega, by omega⟩
  have u3 : inB (r0 : Int) 0 (choose N K - 1) = true := inB_t ⟨by omega, by omega⟩
  have hcb : choose (N : Int) (K : Int) ≤ 4294967297 ∧ 0 ≤ choose (N : Int) (K : Int) := by
    rw [choose_nat N K rfl rfl (by omega)]
    have := binom_le N K
    have := Nat.pow_le_pow_right (n := 2) (by omega) (show N ≤ 32 by omega)
    omega
  obtain ⟨hcb1, hcb2⟩ := hcb
  go_enter Try.func37, Try.ntmps37
  go_wp2_with (first | (go_at_call 52; refine (i_in _ _ _ _).mono ?_; rintro e w1 ⟨rfl, rfl⟩) | (go_at_call 63; refine (i_Choose _ _ _).mono ?_; rintro e w1 ⟨rfl, rfl⟩))
  clear u1 u2 u3
  clear hr hr'
  go_loopw [2, 8, 9] (fun q v i wr => ∃ (acc : List Nat) (x : Nat) (r : Int), i = .int .i64 x ∧ q = .int .i64 r ∧ 0 ≤ r ∧ r ≤ 4294967297 ∧ x ≤ N ∧ Hid (urMid N K r0 acc x r) ∧ Hid (Own wr w.heap.size v (casts acc)) ∧ Hid (Ext w wr)) (fun _ _ i _ => (N + 1 - intOf i).toNat)
  case atStart => exact ⟨[], 0, r0, rfl, rfl, (urMid_bd HS.out (by omega)).1, (urMid_bd HS.out (by omega)).2, by omega, HS, Lib.hid (OwnV.nil _ _ _), Lib.hid (Ext.refl _)⟩
  case round =>
    obtain ⟨acc, x, r, rfl, rfl, r1, r2, hxN, hmid, hown, hext⟩ := hrel
    obtain ⟨a, cap, hv, hc, hm, _⟩ := hown.out.rd
    have hown' := hown.out
    rw [List.length_map] at hv hc
    subst hv
    obtain ⟨J, HJ⟩ : ∃ J, Hid (J = acc.length) := ⟨_, Lib.hid rfl⟩
    rw [← HJ.out] at hc hown' ⊢
    by_cases hlt : J < K
    · have hlt' : acc.length < K := by rw [← HJ.out]; exact hlt
      have hxl := urMid_lt hmid.out hlt'
      have hltI : (J : Int) < (K : Int) := by omega
      have hxI : (x : Int) < (N : Int) := by omega
      have HCH : Hid (choose ((N : Int) - 1 - (x : Int)) ((K : Int) - 1 - (J : Int)) = (binom (N - 1 - x) (K - 1 - acc.length) : Nat)) := Lib.hid (choose_nat _ _ (by omega) (by rw [HJ.out]; omega) (by omega))
      have hz := hext.out.size
      by_cases hq : r < (binom (N - 1 - x) (K - 1 - acc.length) : Nat)
      · have HN2 := Lib.hid (urMid_take hmid.out hlt' hq)
        obtain ⟨c, HC⟩ : ∃ c : Int, Hid (c = (binom (N - 1 - x) (K - 1 - acc.length) : Nat)) := ⟨_, Lib.hid rfl⟩
        rw [← HC.out] at hq HCH
        go_wp2_with fail
        refine (i_size _ _ _ _ (by omega)).mono ?_
        rintro e w2 ⟨rfl, rfl⟩
        go_wp2_with fail
        refine (i_size _ _ _ _ (by omega)).mono ?_
        rintro e w2 ⟨rfl, rfl⟩
        go_wp2_with fail
        refine (i_Choose _ _ _).mono ?_
        rintro e w2 ⟨rfl, rfl⟩
        rw [HCH.out]
        go_wp2_with (at_builtin; refine wp_app1 _ rfl _ _ rfl _ _ (casts acc) rfl hown' (x : Int) rfl (by rw [List.length_map, ← HJ.out]; omega) hz ?_; intro v' w' hown2 hgr)
        have HO : Hid (Own w' w.heap.size v' (casts (acc ++ [x]))) := Lib.hid (by rw [casts, List.map_append]; exact hown2)
        have HE : Hid (Ext w w') := Lib.hid (ext_app (e := 2) hext.out hown' hgr)
        clear hown2 hgr hown'
        go_wp2
        exact ⟨⟨acc ++ [x], x + 1, r, by go_num, rfl, r1, r2, by omega, HN2, HO, HE⟩, by simp only [intOf]; omega⟩
      · have HN2 := Lib.hid (urMid_skip hmid.out hlt' hq)
        have ⟨b1, b2⟩ := urMid_bd HN2.out (by omega)
        obtain ⟨c, HC⟩ : ∃ c : Int, Hid (c = (binom (N - 1 - x) (K - 1 - acc.length) : Nat)) := ⟨_, Lib.hid rfl⟩
        rw [← HC.out] at hq HCH b1 b2 HN2
        have hq' : c ≤ r := by omega
        clear hq
        have HO : Hid (Own wr w.heap.size (.slice a J cap) (casts acc)) := Lib.hid hown'
        clear hown'
        go_wp2_with fail
        refine (i_size _ _ _ _ (by omega)).mono ?_
        rintro e w2 ⟨rfl, rfl⟩
        go_wp2_with fail
        refine (i_size _ _ _ _ (by omega)).mono ?_
        rintro e w2 ⟨rfl, rfl⟩
        go_wp2_with fail
        refine (i_Choose _ _ _).mono ?_
        rintro e w2 ⟨rfl, rfl⟩
        rw [HCH.out]
        go_wp2
        exact ⟨⟨acc, x + 1, r - c, by go_num, rfl, b1, b2, by omega, HN2, HO, hext⟩, by simp only [intOf]; omega⟩
    · have hge : (K : Int) ≤ (J : Int) := by omega
      have HE : Hid (RES = casts acc) := Lib.hid (by rw [HRES2.out, urMid_end hmid.out (by have := HJ.out; omega)])
      have hltF : decide (J < K) = false := by simp; omega
      go_wp2
      skip
      go_ret2
      exact ⟨_, rfl, by rw [HE.out]; exact hown', hext.out⟩
set_option maxHeartbeats 400000 in
theorem s_subset (n k r : Int) (w : World) (hn : 0 ≤ n) (hn' : n ≤ 32) (hk : 0 ≤ k) (hk' : k ≤ n) (hr : 0 ≤ r) (hr' : r ≤ choose n k - 1) : Calls Try.prog 62 #[.int .i64 n, .int .i64 k, .int .i64 r] w (RetInts w (casts (ur n.toNat n.toNat 0 k.toNat r.toNat))) := by
  obtain ⟨N, rfl⟩ := Int.eq_ofNat_of_zero_le hn
  obtain ⟨K, rfl⟩ := Int.eq_ofNat_of_zero_le hk
  obtain ⟨r0, rfl⟩ := Int.eq_ofNat_of_zero_le hr
  have HS : Hid (urMid N K r0 [] 0 r0) := Lib.hid (urMid_start (by
    rw [choose_nat N K rfl rfl (by omega)] at hr'; omega))
  obtain ⟨RES, HRES⟩ : ∃ RES, Hid (RES = casts (ur (N : Int).toNat (N : Int).toNat 0 (K : Int).toNat (r0 : Int).toNat)) := ⟨_, Lib.hid rfl⟩
  have HRES2 : Hid (RES = casts (ur N N 0 K r0)) := Lib.hid (by rw [HRES.out]; simp)
  rw [← HRES.out]
  skip
  go_enter Try.func62, Try.ntmps62
  go_wp2
  clear hr hr'
  go_loopw [2, 7, 8] (fun q v i wr => ∃ (acc : List Nat) (x : Nat) (r : Int), i = .int .i64 x ∧ q = .int .i64 r ∧ 0 ≤ r ∧ r ≤ 4294967297 ∧ x ≤ N ∧ Hid (urMid N K r0 acc x r) ∧ Hid (Own wr w.heap.size v (casts acc)) ∧ Hid (Ext w wr)) (fun _ _ i _ => (N + 1 - intOf i).toNat)
  case atStart => exact ⟨[], 0, r0, rfl, rfl, (urMid_bd HS.out (by omega)).1, (urMid_bd HS.out (by omega)).2, by omega, HS, Lib.hid (OwnV.empty _ _), Lib.hid (ext_alloc _ _)⟩
  case round =>
    obtain ⟨acc, x, r, rfl, rfl, r1, r2, hxN, hmid, hown, hext⟩ := hrel
    obtain ⟨a, cap, hv, hc, hm, _⟩ := hown.out.rd
    have hown' := hown.out
    rw [List.length_map] at hv hc
    subst hv
    obtain ⟨J, HJ⟩ : ∃ J, Hid (J = acc.length) := ⟨_, Lib.hid rfl⟩
    rw [← HJ.out] at hc hown' ⊢
    by_cases hlt : J < K
    · have hlt' : acc.length < K := by rw [← HJ.out]; exact hlt
      have hxl := urMid_lt hmid.out hlt'
      have hltI : (J : Int) < (K : Int) := by omega
      have hxI : (x : Int) < (N : Int) := by omega
      have HCH : Hid (choose ((N : Int) - 1 - (x : Int)) ((K : Int) - 1 - (J : Int)) = (binom (N - 1 - x) (K - 1 - acc.length) : Nat)) := Lib.hid (choose_nat _ _ (by omega) (by rw [HJ.out]; omega) (by omega))
      have hz := hext.out.size
      by_cases hq : r < (binom (N - 1 - x) (K - 1 - acc.length) : Nat)
      · have HN2 := Lib.hid (urMid_take hmid.out hlt' hq)
        obtain ⟨c, HC⟩ : ∃ c : Int, Hid (c = (binom (N - 1 - x) (K - 1 - acc.length) : Nat)) := ⟨_, Lib.hid rfl⟩
        rw [← HC.out] at hq HCH
        go_wp2_with fail
        refine (s_Choose _ _ _).mono ?_
        rintro e w2 ⟨rfl, rfl⟩
        rw [HCH.out]
        go_wp2_with (at_builtin; refine wp_app1 _ rfl _ _ rfl _ _ (casts acc) rfl hown' (x : Int) rfl (by rw [List.length_map, ← HJ.out]; omega) hz ?_; intro v' w' hown2 hgr)
        have HO : Hid (Own w' w.heap.size v' (casts (acc ++ [x]))) := Lib.hid (by rw [casts, List.map_append]; exact hown2)
        have HE : Hid (Ext w w') := Lib.hid (ext_app (e := 2) hext.out hown' hgr)
        clear hown2 hgr hown'
        go_wp2
        exact ⟨⟨acc ++ [x], x + 1, r, by go_num, rfl, r1, r2, by omega, HN2, HO, HE⟩, by simp only [intOf]; omega⟩
      · have HN2 := Lib.hid (urMid_skip hmid.out hlt' hq)
        have ⟨b1, b2⟩ := urMid_bd HN2.out (by omega)
        obtain ⟨c, HC⟩ : ∃ c : Int, Hid (c = (binom (N - 1 - x) (K - 1 - acc.length) : Nat)) := ⟨_, Lib.hid rfl⟩
        rw [← HC.out] at hq HCH b1 b2 HN2
        have hq' : c ≤ r := by omega
        clear hq
        have HO : Hid (Own wr w.heap.size (.slice a J cap) (casts acc)) := Lib.hid hown'
        clear hown'
        go_wp2_with fail
        refine (s_Choose _ _ _).mono ?_
        rintro e w2 ⟨rfl, rfl⟩
        rw [HCH.out]
        go_wp2
        exact ⟨⟨acc, x + 1, r - c, by go_num, rfl, b1, b2, by omega, HN2, HO, hext⟩, by simp only [intOf]; omega⟩
    · have hge : (K : Int) ≤ (J : Int) := by omega
      have HE : Hid (RES = casts acc) := Lib.hid (by rw [HRES2.out, urMid_end hmid.out (by have := HJ.out; omega)])
      have hltF : decide (J < K) = false := by simp; omega
      go_wp2
      skip
      go_ret
      exact ⟨_, rfl, by rw [HE.out]; exact hown', hext.out⟩
theorem unrB_t {n k r : Int} (h : unrB n k r = true) : (0 ≤ n ∧ n ≤ 32) ∧ (0 ≤ k ∧ k ≤ n) ∧ (0 ≤ r ∧ r ≤ choose n k - 1) := by
  simp only [unrB, Bool.and_eq_true] at h
  exact ⟨inB_iff.1 h.1, inB_iff.1 h.2.1, inB_iff.1 h.2.2⟩
theorem ur_len (N : Nat) : ∀ f x k r, (ur N f x k r).length ≤ f := by
  intro f
  induction f with
  | zero => intro x k r; simp [ur]
  | succ f ih =>
    intro x k r
    rw [ur]
    split
    · simp
    · split
      · rw [List.length_cons]; have := ih (x + 1) (k - 1) r; omega
      · have := ih (x + 1) k (r - binom (N - 1 - x) (k - 1)); omega
theorem unrOut_len (n k r : Int) : (unrOut n k r).length ≤ 3000000 := by
  unfold unrOut; split
  · rename_i h; have := unrB_t h; rw [List.length_map]; have := ur_len n.toNat n.toNat 0 k.toNat r.toNat; omega
  · simp
theorem choose_bd {n k : Int} (hn : inB n 0 32 = true) (hk : inB k 0 n = true) : 0 ≤ choose n k ∧ choose n k ≤ 4294967297 := by
  have h1 := inB_iff.1 hn
  have h2 := inB_iff.1 hk
  obtain ⟨N, rfl⟩ := Int.eq_ofNat_of_zero_le h1.1
  obtain ⟨K, rfl⟩ := Int.eq_ofNat_of_zero_le h2.1
  rw [choose_nat N K rfl rfl (by omega)]
  have := binom_le N K
  have := Nat.pow_le_pow_right (n := 2) (by omega) (show N ≤ 32 by omega)
  omega
theorem i_UnrankSubset (n k r : Int) (w : World) : Calls Try.prog 37 #[.int .i64 n, .int .i64 k, .int .i64 r] w (RetIntsI w (unrOut n k r) (unrCode n k r)) := by
  cases hb : unrB n k r
  · have G : Hid (unrOut n k r = []) := Lib.hid (by simp [unrOut, hb])
    have G2 : Hid (unrCode n k r = 2) := Lib.hid (by simp [unrCode, hb])
    cases u1 : inB n 0 32
    · clear hb
      go_enter Try.func37, Try.ntmps37
      go_wp2_with (go_at_call 52; refine (i_in _ _ _ _).mono ?_; rintro e w1 ⟨rfl, rfl⟩)
      go_ret2
      exact ⟨_, by rw [G2.out]; rfl, by rw [G.out]; exact OwnV.nil _ _ _, Ext.refl _⟩
    · cases u2 : inB k 0 n
      · clear hb
        go_enter Try.func37, Try.ntmps37
        go_wp2_with (go_at_call 52; refine (i_in _ _ _ _).mono ?_; rintro e w1 ⟨rfl, rfl⟩)
        go_ret2
        exact ⟨_, by rw [G2.out]; rfl, by rw [G.out]; exact OwnV.nil _ _ _, Ext.refl _⟩
      · have u3 : inB r 0 (choose n k - 1) = false := by simpa [unrB, u1, u2] using hb
        clear hb
        obtain ⟨c1, c2⟩ := choose_bd u1 u2
        go_enter Try.func37, Try.ntmps37
        go_wp2_with (first | (go_at_call 52; refine (i_in _ _ _ _).mono ?_; rintro e w1 ⟨rfl, rfl⟩) | (go_at_call 63; refine (i_Choose _ _ _).mono ?_; rintro e w1 ⟨rfl, rfl⟩))
        go_ret2
        exact ⟨_, by rw [G2.out]; rfl, by rw [G.out]; exact OwnV.nil _ _ _, Ext.refl _⟩
  · have G : Hid (unrOut n k r = casts (ur n.toNat n.toNat 0 k.toNat r.toNat)) := Lib.hid (by simp [unrOut, hb])
    have G2 : Hid (unrCode n k r = 0) := Lib.hid (by simp [unrCode, hb])
    obtain ⟨⟨a1, a2⟩, ⟨a3, a4⟩, a5, a6⟩ := unrB_t hb
    clear hb
    rw [G.out, G2.out]
    exact i_subset n k r w a1 a2 a3 a4 a5 a6
theorem s_UnrankSubset (n k r : Int) (w : World) : Calls Try.prog 36 #[.int .i64 n, .int .i64 k, .int .i64 r] w (RetIntsI w (unrOut n k r) (unrCode n k r)) := by
  cases hb : unrB n k r
  · have G : Hid (unrOut n k r = []) := Lib.hid (by simp [unrOut, hb])
    have G2 : Hid (unrCode n k r = 2) := Lib.hid (by simp [unrCode, hb])
    cases u1 : inB n 0 32
    · clear hb
      go_enter Try.func36, Try.ntmps36
      go_wp2_with (go_at_call 50; refine (s_in _ _ _ _).mono ?_; rintro e w1 ⟨rfl, rfl⟩)
      go_ret2
      exact ⟨_, by rw [G2.out]; rfl, by rw [G.out]; exact OwnV.nil _ _ _, Ext.refl _⟩
    · cases u2 : inB k 0 n
      · clear hb
        go_enter Try.func36, Try.ntmps36
        go_wp2_with (go_at_call 50; refine (s_in _ _ _ _).mono ?_; rintro e w1 ⟨rfl, rfl⟩)
        go_ret2
        exact ⟨_, by rw [G2.out]; rfl, by rw [G.out]; exact OwnV.nil _ _ _, Ext.refl _⟩
      · have u3 : inB r 0 (choose n k - 1) = false := by simpa [unrB, u1, u2] using hb
        clear hb
        obtain ⟨c1, c2⟩ := choose_bd u1 u2
        go_enter Try.func36, Try.ntmps36
        go_wp2_with (first | (go_at_call 50; refine (s_in _ _ _ _).mono ?_; rintro e w1 ⟨rfl, rfl⟩) | (go_at_call 61; refine (s_Choose _ _ _).mono ?_; rintro e w1 ⟨rfl, rfl⟩))
        go_ret2
        exact ⟨_, by rw [G2.out]; rfl, by rw [G.out]; exact OwnV.nil _ _ _, Ext.refl _⟩
  · have G : Hid (unrOut n k r = casts (ur n.toNat n.toNat 0 k.toNat r.toNat)) := Lib.hid (by simp [unrOut, hb])
    have G2 : Hid (unrCode n k r = 0) := Lib.hid (by simp [unrCode, hb])
    obtain ⟨⟨a1, a2⟩, ⟨a3, a4⟩, a5, a6⟩ := unrB_t hb
    clear hb
    rw [G.out, G2.out]
    have u1 := inB_t ⟨a1, a2⟩
    have u2 := inB_t ⟨a3, a4⟩
    have u3 := inB_t ⟨a5, a6⟩
    obtain ⟨c1, c2⟩ := choose_bd u1 u2
    go_enter Try.func36, Try.ntmps36
    go_wp2_with (first | (go_at_call 50; refine (s_in _ _ _ _).mono ?_; rintro e w1 ⟨rfl, rfl⟩) | (go_at_call 61; refine (s_Choose _ _ _).mono ?_; rintro e w1 ⟨rfl, rfl⟩) | (go_at_call 62; refine (s_subset n k r _ a1 a2 a3 a4 a5 a6).mono ?_; rintro e w1 ⟨v, rfl, hown, hext⟩))
    go_ret2
    exact ⟨_, rfl, hown, hext⟩
theorem l_UnrankSubset (a0 : Int) (a1 : Int) (a2 : Int) (w : World) :
    Calls Try.prog 10 #[.int .i64 a0, .int .i64 a1, .int .i64 a2] w fun e w' => e = .returned (.bool true) ∧ Ext w w' := by
  have hbd := Lib.hid (show (unrOut a0 a1 a2).length ≤ 3000000 from unrOut_len a0 a1 a2)
  obtain ⟨R, HR⟩ : ∃ R : List Int, Hid (R = unrOut a0 a1 a2) := ⟨_, Lib.hid rfl⟩
  have hb : R.length ≤ 3000000 := by rw [HR.out]; exact hbd.out
  clear hbd
  have X0 : Ext w w := Ext.refl w
  go_enter Try.func10, Try.ntmps10
  go_wp2_with fail
  refine (s_UnrankSubset a0 a1 a2 _  ).mono ?_
  rintro e w1 ⟨u_wt, rfl, wt_1, x1⟩
  rw [← HR.out] at wt_1
  have z1 := x1.size
  have X1 : Ext w w1 := X0.trans x1
  go_wp2_with fail
  refine (i_UnrankSubset a0 a1 a2 _  ).mono ?_
  rintro e w2 ⟨u_gt, rfl, gt_2, x2⟩
  rw [← HR.out] at gt_2
  have z2 := x2.size
  have X2 : Ext w w2 := X1.trans x2
  have wt_2 := wt_1.ext x2
  go_wp2_with fail
  refine (l_eqInt64S_t _ _ R _ gt_2.rd wt_2.rd).mono ?_
  rintro e w3 ⟨rfl, d3⟩
  have x3 := d3.ext
  have z3 := x3.size
  have X3 : Ext w w3 := X2.trans x3
  have wt_3 := wt_2.ext x3
  have gt_3 := gt_2.ext x3
  go_wp2_with fail
  refine (l_markInt64S _ (1) R _ _ (by omega) gt_3).mono ?_
  rintro e w4 ⟨rfl, gt_4, g4⟩
  have z4 := g4.size
  have X4 : Ext w w4 := Below.grown X3 g4 X3.size (fun j hj => Nat.le_trans (X1.size) (gt_3.lt j hj).1)
  have wt_4 := wt_3.kept g4 (wt_1.apart gt_3 (by omega))
  go_wp2_with fail
  refine (l_heldInt64S _ 1 R.length _ (by omega) gt_4.rd).mono ?_
  rintro e _ ⟨rfl, rfl⟩
  go_wp2_with fail
  refine (i_UnrankSubset a0 a1 a2 _  ).mono ?_
  rintro e w5 ⟨u_ht, rfl, ht_5, x5⟩
  rw [← HR.out] at ht_5
  have z5 := x5.size
  have X5 : Ext w w5 := X4.trans x5
  have wt_5 := wt_4.ext x5
  have gt_5 := gt_4.ext x5
  go_wp2_with fail
  refine (l_eqInt64S_t _ _ R _ ht_5.rd wt_5.rd).mono ?_
  rintro e w6 ⟨rfl, d6⟩
  have x6 := d6.ext
  have z6 := x6.size
  have X6 : Ext w w6 := X5.trans x6
  have wt_6 := wt_5.ext x6
  have gt_6 := gt_5.ext x6
  have ht_6 := ht_5.ext x6
  go_wp2_with fail
  refine (l_heldInt64S _ 1 R.length _ (by omega) gt_6.rd).mono ?_
  rintro e _ ⟨rfl, rfl⟩
  go_wp2
  go_ret
  exact ⟨rfl, X6⟩

end Go.Proofs.Ytnibjljamogbeaa
