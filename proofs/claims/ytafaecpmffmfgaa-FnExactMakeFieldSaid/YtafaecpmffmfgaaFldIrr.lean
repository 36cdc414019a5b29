/- Irreducible polynomials: the walks of the program and of the reference. No condition. -/
import Derived.Test.YtafaecpmffmfgaaFldDig
import Derived.Test.YtafaecpmffmfgaaFldRem
import Derived.Test.YtafaecpmffmfgaaInts
import Derived.Test.YtafaecpmffmfgaaSize
namespace Go.Proofs.Ytafaecpmffmfgaa
open Go.RowKit

/-- The call hands back an index, or a number below zero. -/
def IdxPost (p : Int → Bool) (xs : List Int) (w : World) (e : Ending) (w' : World) : Prop := ∃ k : Int, e = .returned (.int .i64 k) ∧ decide (0 ≤ k) = xs.any p ∧ w = w'
def noneTo (p : Int → Bool) (xs : List Int) (k : Nat) : Prop := ∀ i (h : i < xs.length), i < k → p xs[i] = false
theorem noneTo_next {p : Int → Bool} {xs : List Int} {k : Nat} (h : noneTo p xs k) (hk : k < xs.length) (hp : p xs[k] = false) : noneTo p xs (k + 1) := by
  intro i hi h1
  by_cases e : i = k
  · subst e; exact hp
  · exact h i hi (by omega)
theorem noneTo_end {p : Int → Bool} {xs : List Int} (h : noneTo p xs xs.length) : xs.any p = false := by
  rw [List.any_eq_false]
  intro x hx
  obtain ⟨i, hi, rfl⟩ := List.mem_iff_getElem.1 hx
  rw [h i hi hi]; simp
theorem any_hit {p : Int → Bool} {xs : List Int} {k : Nat} (hk : k < xs.length) (hp : p xs[k] = true) : xs.any p = true := List.any_eq_true.2 ⟨_, List.getElem_mem hk, hp⟩
theorem digL_snoc_mod {p : Int} (hp : 2 ≤ p) (d : Nat) (a : Int) : InMod p (digL p d a ++ [1]) := by
  intro x hx
  rcases List.mem_append.1 hx with hx | hx
  · exact digL_mod (by omega) d a x hx
  · rw [List.mem_singleton] at hx; subst hx; omega
theorem i_IndexZ (v : Value) (xs : List Int) (w : World) (h : Rd w v xs) : Calls Try.prog 97 #[v, .func (.func 95) #[] #[]] w (IdxPost (fun x => x != 0) xs w) := by
  obtain ⟨a, cap, rfl, hc, hm, hr⟩ := h
  obtain ⟨N, HN⟩ : ∃ N, Hid (N = xs.length) := ⟨_, Lib.hid rfl⟩
  have HC : Hid (0 < N → ∃ b o, a = some ⟨b, o, none⟩ ∧ b < w.heap.size ∧ ∀ i (h : i < xs.length), w.cell? ⟨b, o + i, none⟩ = some (.int .i64 xs[i])) := Lib.hid (fun hk => hr (by rw [← HN.out]; exact hk))
  clear hr
  rw [← HN.out] at hc ⊢
  go_enter Try.func97, Try.ntmps97
  go_wp2
  go_loop [8] (fun i => ∃ k : Nat, k ≤ N ∧ i = .int .i64 k ∧ Hid (noneTo (fun x => x != 0) xs k)) (fun i => N - (intOf i).toNat)
  case atStart => exact ⟨0, by omega, rfl, Lib.hid (fun i hi h => by omega)⟩
  case round =>
    obtain ⟨k, hk, rfl, hmid⟩ := hrel
    by_cases hlt : k < N
    · have hlt' : k < xs.length := by rw [← HN.out]; exact hlt
      obtain ⟨b, o, rfl, hb, hall⟩ := HC.out (by omega)
      have hx := hall k hlt'
      obtain ⟨z, HZ⟩ : ∃ z, Hid (z = xs[k]) := ⟨_, Lib.hid rfl⟩
      rw [← HZ.out] at hx
      clear hall
      cases hz : (z != 0)
      · have HM := Lib.hid (noneTo_next hmid.out hlt' (by rw [← HZ.out]; exact hz))
        clear hmid
        go_wp2
        exact ⟨⟨k + 1, by omega, by go_num, HM⟩, by simp only [intOf]; omega⟩
      · have HM : Hid (xs.any (fun x => x != 0) = true) := Lib.hid (any_hit hlt' (by rw [← HZ.out]; exact hz))
        clear hmid
        go_wp2
        go_ret
        exact ⟨_, rfl, by rw [HM.out, decide_eq_true_eq]; omega, rfl⟩
    · obtain rfl : k = N := by omega
      have HM : Hid (xs.any (fun x => x != 0) = false) := Lib.hid (noneTo_end (by have := hmid.out; rw [HN.out] at this; exact this))
      clear hmid
      go_wp2
      go_ret
      exact ⟨_, rfl, by rw [HM.out]; rfl, rfl⟩
theorem i_ContainsZ (v : Value) (xs : List Int) (w : World) (h : Rd w v xs) : Calls Try.prog 88 #[v, .func (.func 95) #[] #[]] w fun e w' => e = .returned (.bool (xs.any (fun x => x != 0))) ∧ w = w' := by
  go_enter Try.func88, Try.ntmps88
  go_wp2_with fail
  refine (i_IndexZ _ xs _ h).mono ?_
  rintro e w1 ⟨k, rfl, hk, rfl⟩
  go_wp2
  go_ret
  exact ⟨rfl, rfl⟩
theorem zeroB_any (xs : List Int) : zeroB xs = !xs.any (fun x => x != 0) := by rw [zeroB, List.all_eq_not_any_not]; rfl
theorem i_isZero (v : Value) (xs : List Int) (w : World) (h : Rd w v xs) : Calls Try.prog 84 #[v] w fun e w' => e = .returned (.bool (zeroB xs)) ∧ w = w' := by
  rw [zeroB_any]
  go_enter Try.func84, Try.ntmps84
  go_wp2_with fail
  refine (i_ContainsZ _ xs _ h).mono ?_
  rintro e w1 ⟨rfl, rfl⟩
  go_wp2
  go_ret
  exact ⟨rfl, rfl⟩
theorem irr_bd {p : Int} (hp : 2 ≤ p) {D e : Nat} (hq : p ^ D ≤ 64) (he : e ≤ D) : 1 ≤ p ^ e ∧ p ^ e ≤ 64 := by
  have h1 := pow_pos' (p := p) (by omega) e
  have h2 := pow_pos' (p := p) (by omega) (D - e)
  have h3 : p ^ D = p ^ e * p ^ (D - e) := by rw [← Int.pow_add]; congr 1; omega
  have h4 : p ^ e * 1 ≤ p ^ e * p ^ (D - e) := Int.mul_le_mul_of_nonneg_left (by omega) (by omega)
  omega
set_option maxHeartbeats 1000000 in
theorem i_irr (v : Value) (xs : List Int) (p : Int) (w : World) (h : Rd w v xs) (hp : 2 ≤ p) (hp2 : p ≤ 64) (hx : InMod p xs) (hl1 : 2 ≤ xs.length) (hl2 : xs.length ≤ 7) (hq : p ^ (xs.length - 1) ≤ 64) :
    Calls Try.prog 57 #[v, .int .i64 p] w fun e w' => e = .returned (.bool (irrB p xs)) ∧ Ext w w' := by
  have HRD := Lib.hid h
  obtain ⟨a, cap, rfl, hc, hm, _⟩ := h
  obtain ⟨L, HL⟩ : ∃ L, Hid (L = xs.length) := ⟨_, Lib.hid rfl⟩
  obtain ⟨D, HD⟩ : ∃ D, Hid (L = D + 1) := ⟨L - 1, Lib.hid (by rw [HL.out]; omega)⟩
  have HQ : Hid (p ^ D ≤ 64) := Lib.hid (by rw [show D = xs.length - 1 from by have := HD.out; have := HL.out; omega]; exact hq)
  have HX := Lib.hid hx
  have HLX : Hid (xs.length ≤ 7) := Lib.hid hl2
  rw [← HL.out] at hc hl1 hl2 HRD ⊢
  have hLD : (L : Int) - 1 = (D : Int) := by have := HD.out; omega
  have hD1 : 1 ≤ D := by have := HD.out; omega
  have hD6 : D ≤ 6 := by have := HD.out; omega
  clear hx hq
  go_enter Try.func57, Try.ntmps57
  go_wp2_with fail
  refine (i_size _ _ _ _ (by omega)).mono ?_
  rintro e w ⟨rfl, rfl⟩
  go_wp2
  go_loopw [6] (fun d wr => ∃ e : Nat, 1 ≤ e ∧ e ≤ 10 ∧ d = .int .i64 e ∧ Hid (irrMid p xs (e - 1) 0) ∧ Hid (Ext w wr)) (fun d _ => 20 - (intOf d).toNat)
  case atStart => exact ⟨1, by omega, by omega, rfl, Lib.hid (irrMid_start xs), Lib.hid (Ext.refl _)⟩
  case round =>
    obtain ⟨d, hd1, hd2, rfl, hmid, hext⟩ := hrel
    by_cases hlt : 2 * (d : Int) ≤ (D : Int)
    · obtain ⟨Q, HQQ⟩ : ∃ Q, Hid (Q = p ^ d) := ⟨_, Lib.hid rfl⟩
      have hQ := irr_bd hp HQ.out (show d ≤ D by omega)
      rw [← HQQ.out] at hQ
      have HUP : Hid (upW p (d : Int).toNat 1 = Q) := Lib.hid (by
        have h1 := (upW_pow hp d 1 (by omega)).1 (by rw [Int.one_mul, ← HQQ.out]; omega)
        rw [Int.toNat_natCast, h1, Int.one_mul, HQQ.out])
      go_wp2
      go_loopw [7] (fun n wr => ∃ k : Nat, k ≤ 64 ∧ n = .int .i64 k ∧ Hid (irrMid p xs (d - 1) k) ∧ Hid (Ext w wr)) (fun n _ => 65 - (intOf n).toNat)
      case atStart => exact ⟨0, by omega, rfl, hmid, hext⟩
      case round =>
        clear hmid hext
        obtain ⟨k, hk, rfl, hmid, hext⟩ := hrel
        go_wp2_with fail
        refine (i_powerUpTo _ _ _ hp (by omega) (by omega) (by omega)).mono ?_
        rintro e _ ⟨rfl, rfl⟩
        rw [HUP.out]
        by_cases hkQ : (k : Int) < Q
        · have hk64 : k < 64 := by omega
          go_wp2_with fail
          refine (i_digits (k : Int) p d _ hp hp2 (by omega) (by omega) (by omega)).mono ?_
          rintro e w1 ⟨v1, rfl, hown1, hext1⟩
          have hz1 := hext1.size
          have hlen1 : (digL p d (k : Int)).length ≤ 20 := by rw [digL_len]; omega
          go_wp2_with (at_builtin; refine wp_app1 _ rfl _ _ rfl _ _ (digL p d (k : Int)) rfl hown1 1 rfl (by omega) hz1 ?_; intro v2 w2 hown2 hgr2)
          have HE2 : Hid (Ext w w2) := Lib.hid (hext.out.trans (ext_app (e := 2) hext1 hown1 hgr2))
          have HO2 := Lib.hid hown2
          clear hown1 hext1 hown2 hgr2 hz1 hlen1
          refine (i_rem _ _ xs (digL p d (k : Int) ++ [1]) p _ (HRD.out.ext HE2.out) HO2.out.rd hp hp2 HX.out (digL_snoc_mod hp _ _) (by have := HLX.out; omega) (by simp) (by rw [List.length_append, digL_len]; simp; omega)).mono ?_
          rintro e w3 ⟨v3, rfl, hrd3, hext3⟩
          have HE3 : Hid (Ext w w3) := Lib.hid (HE2.out.trans hext3)
          have HR3 := Lib.hid hrd3
          clear hext3 hrd3
          go_wp2_with fail
          refine (i_isZero _ _ _ HR3.out).mono ?_
          rintro e _ ⟨rfl, rfl⟩
          cases hdv : divB p xs d k
          · have HNX : Hid (irrMid p xs (d - 1) (k + 1)) := Lib.hid (irrMid_next hmid.out (by rw [show d - 1 + 1 = d from by omega]; exact hdv))
            have HZ : Hid (zeroB (remL p (digL p d (k : Int) ++ [1]) xs) = false) := Lib.hid hdv
            rw [HZ.out]
            clear hdv hmid hext
            go_wp2
            exact ⟨⟨k + 1, by omega, by go_num, HNX, HE3⟩, by simp only [intOf]; omega⟩
          · have HZ : Hid (zeroB (remL p (digL p d (k : Int) ++ [1]) xs) = true) := Lib.hid hdv
            have HNX : Hid (irrB p xs = false) := Lib.hid (irrMid_hit (p := p) (by omega) (poly := xs) (d := d - 1) (n := k) (by have := HL.out; have := HD.out; omega) (by rw [show d - 1 + 1 = d from by omega, ← HQQ.out]; exact hkQ) (by rw [show d - 1 + 1 = d from by omega]; exact hdv))
            rw [HZ.out]
            clear hdv hmid hext
            go_wp2
            go_ret
            exact ⟨ret_bool HNX.out.symm, HE3.out⟩
        · have HNX : Hid (irrMid p xs (d + 1 - 1) 0) := Lib.hid (by
            have h1 := irrMid_deg hmid.out (by rw [show d - 1 + 1 = d from by omega, ← HQQ.out]; omega)
            rw [show d - 1 + 1 = d + 1 - 1 from by omega] at h1
            exact h1)
          clear hmid
          go_wp2
          exact ⟨⟨d + 1, by omega, by omega, by go_num, HNX, hext⟩, by simp only [intOf]; omega⟩
    · have HNX : Hid (irrB p xs = true) := Lib.hid (irrMid_end hmid.out (by have := HL.out; have := HD.out; omega))
      clear hmid
      go_wp2
      go_ret
      exact ⟨ret_bool HNX.out.symm, hext.out⟩
set_option maxHeartbeats 1000000 in
theorem s_irr (v : Value) (xs : List Int) (p : Int) (w : World) (h : Rd w v xs) (hsn : Sane v) (hp : 2 ≤ p) (hp2 : p ≤ 64) (hx : InMod p xs) (hl1 : 2 ≤ xs.length) (hl2 : xs.length ≤ 7) (hq : p ^ (xs.length - 1) ≤ 64) :
    Calls Try.prog 82 #[v, .int .i64 p] w fun e w' => e = .returned (.bool (irrB p xs)) ∧ Ext w w' := by
  have HRD := Lib.hid h
  obtain ⟨a, cap, rfl, hc, hm, _⟩ := h
  obtain ⟨L, HL⟩ : ∃ L, Hid (L = xs.length) := ⟨_, Lib.hid rfl⟩
  obtain ⟨D, HD⟩ : ∃ D, Hid (L = D + 1) := ⟨L - 1, Lib.hid (by rw [HL.out]; omega)⟩
  have HQ : Hid (p ^ D ≤ 64) := Lib.hid (by rw [show D = xs.length - 1 from by have := HD.out; have := HL.out; omega]; exact hq)
  have HX := Lib.hid hx
  have HLX : Hid (xs.length ≤ 7) := Lib.hid hl2
  rw [← HL.out] at hc hl1 hl2 HRD hsn ⊢
  have hLD : (L : Int) - 1 = (D : Int) := by have := HD.out; omega
  have hD1 : 1 ≤ D := by have := HD.out; omega
  have hD6 : D ≤ 6 := by have := HD.out; omega
  clear hx hq
  go_enter Try.func82, Try.ntmps82
  go_wp2
  go_loopw [6] (fun d wr => ∃ e : Nat, 1 ≤ e ∧ e ≤ 10 ∧ d = .int .i64 e ∧ Hid (irrMid p xs (e - 1) 0) ∧ Hid (Ext w wr)) (fun d _ => 20 - (intOf d).toNat)
  case atStart => exact ⟨1, by omega, by omega, rfl, Lib.hid (irrMid_start xs), Lib.hid (Ext.refl _)⟩
  case round =>
    obtain ⟨d, hd1, hd2, rfl, hmid, hext⟩ := hrel
    by_cases hlt : 2 * (d : Int) ≤ (D : Int)
    · obtain ⟨Q, HQQ⟩ : ∃ Q, Hid (Q = p ^ d) := ⟨_, Lib.hid rfl⟩
      have hQ := irr_bd hp HQ.out (show d ≤ D by omega)
      rw [← HQQ.out] at hQ
      go_wp2
      go_loopw [7] (fun n wr => ∃ k : Nat, k ≤ 64 ∧ n = .int .i64 k ∧ Hid (irrMid p xs (d - 1) k) ∧ Hid (Ext w wr)) (fun n _ => 65 - (intOf n).toNat)
      case atStart => exact ⟨0, by omega, rfl, hmid, hext⟩
      case round =>
        clear hmid hext
        obtain ⟨k, hk, rfl, hmid, hext⟩ := hrel
        go_wp2_with fail
        refine (s_power _ d _ hp hp2 (by omega)).mono ?_
        rintro e _ ⟨rfl, rfl⟩
        rw [← HQQ.out]
        by_cases hkQ : (k : Int) < Q
        · have hk64 : k < 64 := by omega
          go_wp2_with fail
          refine (s_digits (k : Int) p d _ hp hp2 (by omega) (by omega) (by omega)).mono ?_
          rintro e w1 ⟨v1, rfl, hown1, hext1⟩
          have hz1 := hext1.size
          have hlen1 : (digL p d (k : Int)).length ≤ 20 := by rw [digL_len]; omega
          go_wp2_with (at_builtin; refine wp_app1 _ rfl _ _ rfl _ _ (digL p d (k : Int)) rfl hown1 1 rfl (by omega) hz1 ?_; intro v2 w2 hown2 hgr2)
          have HE2 : Hid (Ext w w2) := Lib.hid (hext.out.trans (ext_app (e := 2) hext1 hown1 hgr2))
          have HO2 := Lib.hid hown2
          clear hown1 hext1 hown2 hgr2 hz1 hlen1
          refine (s_rem _ _ xs (digL p d (k : Int) ++ [1]) p _ (HRD.out.ext HE2.out) hsn HO2.out.rd hp hp2 HX.out (digL_snoc_mod hp _ _) (by have := HLX.out; omega) (by simp) (by rw [List.length_append, digL_len]; simp; omega)).mono ?_
          rintro e w3 ⟨v3, rfl, hrd3, hext3⟩
          have HE3 : Hid (Ext w w3) := Lib.hid (HE2.out.trans hext3)
          have HR3 := Lib.hid hrd3
          clear hext3 hrd3
          have HRM : Hid (InMod p (remL p (digL p d (k : Int) ++ [1]) xs)) := Lib.hid (remL_mod (by omega) _ _ HX.out)
          go_wp2_with fail
          refine (s_number _ _ _ _ HR3.out hp hp2 HRM.out (by rw [remL_len, List.length_append, digL_len]; simp; omega)).mono ?_
          rintro e _ ⟨rfl, rfl⟩
          obtain ⟨nn, HNN⟩ : ∃ nn, Hid (nn = numL p (remL p (digL p d (k : Int) ++ [1]) xs)) := ⟨_, Lib.hid rfl⟩
          rw [← HNN.out]
          cases hdv : divB p xs d k
          · have HNX : Hid (irrMid p xs (d - 1) (k + 1)) := Lib.hid (irrMid_next hmid.out (by rw [show d - 1 + 1 = d from by omega]; exact hdv))
            have hnn : (nn == 0) = false := by
              rw [beq_eq_false_iff_ne, HNN.out]
              intro h0
              have := (numL_zero (by omega) _ HRM.out).1 h0
              rw [divB, this] at hdv
              cases hdv
            clear hdv hmid hext
            go_wp2
            exact ⟨⟨k + 1, by omega, by go_num, HNX, HE3⟩, by simp only [intOf]; omega⟩
          · have hnn : (nn == 0) = true := by
              rw [beq_iff_eq, HNN.out]
              exact (numL_zero (by omega) _ HRM.out).2 hdv
            have HNX : Hid (irrB p xs = false) := Lib.hid (irrMid_hit (p := p) (by omega) (poly := xs) (d := d - 1) (n := k) (by have := HL.out; have := HD.out; omega) (by rw [show d - 1 + 1 = d from by omega, ← HQQ.out]; exact hkQ) (by rw [show d - 1 + 1 = d from by omega]; exact hdv))
            clear hdv hmid hext
            go_wp2
            go_ret
            exact ⟨ret_bool HNX.out.symm, HE3.out⟩
        · have HNX : Hid (irrMid p xs (d + 1 - 1) 0) := Lib.hid (by
            have h1 := irrMid_deg hmid.out (by rw [show d - 1 + 1 = d from by omega, ← HQQ.out]; omega)
            rw [show d - 1 + 1 = d + 1 - 1 from by omega] at h1
            exact h1)
          clear hmid
          go_wp2
          exact ⟨⟨d + 1, by omega, by omega, by go_num, HNX, hext⟩, by simp only [intOf]; omega⟩
    · have HNX : Hid (irrB p xs = true) := Lib.hid (irrMid_end hmid.out (by have := HL.out; have := HD.out; omega))
      clear hmid
      go_wp2
      go_ret
      exact ⟨ret_bool HNX.out.symm, hext.out⟩
end Go.Proofs.Ytafaecpmffmfgaa
