/- SignOf and OrderOfPermutation: the walks of the program and of the reference, and the laws. No condition. -/
import Derived.Test.YtloacmfafccofaaCyc
import Derived.Test.YtloacmfafccofaaGcd
import Derived.Test.YtloacmfafccofaaSize
namespace Go.Proofs.Ytloacmfafccofaa
open Go.RowKit

theorem cycN_ok {ns : List Nat} (hp : IsP ns) : cycSum (cycN ns) = ns.length ∧ ∀ c ∈ cycN ns, 1 ≤ c.length := by
  obtain ⟨h1, h2, h3⟩ := hp
  obtain ⟨_, b, _, s, e⟩ := cyOk h2 h3 h1 ns.length (Nat.le_refl _)
  refine ⟨?_, fun c hc => List.length_pos_iff.2 (b c hc).1⟩
  have h0 : (cyA ns ns.length).2.count false = 0 := by
    rw [List.count_eq_zero]
    intro hm
    obtain ⟨i, hi, e2⟩ := List.mem_iff_getElem.1 hm
    have := s i (by rw [cyA_len] at hi; exact hi)
    rw [List.getD, List.getElem?_eq_getElem hi, e2] at this
    cases this
  unfold cycN
  omega
theorem cycSum_ge : ∀ {l : List (List Nat)}, (∀ c ∈ l, 1 ≤ c.length) → l.length ≤ cycSum l
  | [], _ => by simp [cycSum]
  | c :: r, h => by
    have h1 := h c (List.mem_cons_self ..)
    have := cycSum_ge (l := r) (fun x hx => h x (List.mem_cons_of_mem _ hx))
    simp only [List.length_cons, cycSum]; omega
theorem cycSum_drop {l : List (List Nat)} {k : Nat} (h : k < l.length) : cycSum (l.drop k) = l[k].length + cycSum (l.drop (k + 1)) := by
  rw [List.drop_eq_getElem_cons h, cycSum]
theorem cycSum_mem {l : List (List Nat)} {k : Nat} (h : k < l.length) : l[k].length ≤ cycSum l := by
  have h1 : cycSum l = cycSum (l.take k) + cycSum (l.drop k) := by rw [← cycSum_append, List.take_append_drop]
  have := cycSum_drop h
  omega
/-! the sign -/
def sgnL : List (List Nat) → Int
  | [] => 1
  | c :: r => if c.length % 2 = 0 then -sgnL r else sgnL r
theorem sgnL_or : ∀ l, sgnL l = 1 ∨ sgnL l = -1
  | [] => .inl rfl
  | c :: r => by rw [sgnL]; rcases sgnL_or r with h | h <;> rw [h] <;> split <;> simp
theorem sgnL_par : ∀ {l : List (List Nat)}, (∀ c ∈ l, 1 ≤ c.length) → sgnL l = if (cycSum l - l.length) % 2 = 0 then 1 else -1
  | [], _ => by simp [sgnL, cycSum]
  | c :: r, h => by
    have h1 := h c (List.mem_cons_self ..)
    have hr : ∀ c ∈ r, 1 ≤ c.length := fun x hx => h x (List.mem_cons_of_mem _ hx)
    have h2 := sgnL_par hr
    have h3 := cycSum_ge hr
    rw [sgnL, h2, cycSum, List.length_cons]
    by_cases e : c.length % 2 = 0
    · rw [if_pos e]
      by_cases e2 : (cycSum r - r.length) % 2 = 0
      · rw [if_pos e2, if_neg (by omega)]
      · rw [if_neg e2, if_pos (by omega)]; rfl
    · rw [if_neg e]
      by_cases e2 : (cycSum r - r.length) % 2 = 0
      · rw [if_pos e2, if_pos (by omega)]
      · rw [if_neg e2, if_neg (by omega)]
def sgnMid (l : List (List Nat)) (k : Nat) (A : Int) : Prop := A * sgnL (l.drop k) = sgnL l ∧ (A = 1 ∨ A = -1)
theorem sgnMid_even {l : List (List Nat)} {k : Nat} {A : Int} (h : sgnMid l k A) (hk : k < l.length) (he : l[k].length % 2 = 0) : sgnMid l (k + 1) (-A) := by
  obtain ⟨h1, h2⟩ := h
  rw [List.drop_eq_getElem_cons hk, sgnL, if_pos he] at h1
  exact ⟨by rw [← h1]; rw [Int.neg_mul, Int.mul_neg], by omega⟩
theorem sgnMid_odd {l : List (List Nat)} {k : Nat} {A : Int} (h : sgnMid l k A) (hk : k < l.length) (he : ¬ l[k].length % 2 = 0) : sgnMid l (k + 1) A := by
  obtain ⟨h1, h2⟩ := h
  rw [List.drop_eq_getElem_cons hk, sgnL, if_neg he] at h1
  exact ⟨h1, h2⟩
def sgnOut (xs : List Int) : Int := if validP xs then sgnL (cycN (xs.map Int.toNat)) else 0
/-! the order -/
def ordF (A : Int) (n : Nat) : Int := A / gcdOut A n * n
def ordL : Int → List (List Nat) → Int
  | A, [] => A
  | A, c :: r => ordL (ordF A c.length) r
def ordOut (xs : List Int) : Int := if validP xs then ordL 1 (cycN (xs.map Int.toNat)) else 0
theorem cube_le (n : Nat) (h : 1 ≤ n) : n * n * n ≤ 3 ^ n := by
  induction n with
  | zero => omega
  | succ n ih =>
    rcases (show n = 0 ∨ n = 1 ∨ n = 2 ∨ 3 ≤ n by omega) with rfl | rfl | rfl | h3
    · decide
    · decide
    · decide
    · have ih := ih (by omega)
      rw [Nat.pow_succ]
      have e : (n + 1) * (n + 1) * (n + 1) = n * n * n + 3 * (n * n) + 3 * n + 1 := by
        simp only [Nat.add_mul, Nat.mul_add, Nat.one_mul, Nat.mul_one]; omega
      have h4 : 3 * (n * n) ≤ n * (n * n) := Nat.mul_le_mul_right _ h3
      have h5 : 3 * 3 ≤ n * n := Nat.mul_le_mul h3 h3
      have h6 : 3 * n ≤ n * n := Nat.mul_le_mul_right _ h3
      have e2 : n * (n * n) = n * n * n := by rw [Nat.mul_assoc]
      omega
def ordMid (l : List (List Nat)) (k : Nat) (A : Int) : Prop := ∃ a : Nat, A = (a : Int) ∧ 1 ≤ a ∧ a * a * a ≤ 3 ^ (cycSum (l.take k)) ∧ ordL A (l.drop k) = ordL 1 l
theorem gcdOut_pos {A : Int} {a n : Nat} (e : A = (a : Int)) (ha : 1 ≤ a) : ∃ g : Nat, gcdOut A n = (g : Int) ∧ 1 ≤ g ∧ g ∣ a := by
  subst e
  refine ⟨Nat.gcd a n, by simp [gcdOut], Nat.gcd_pos_of_pos_left _ ha, Nat.gcd_dvd_left _ _⟩
theorem ordMid_bd {l : List (List Nat)} {k : Nat} {A : Int} (h : ordMid l k A) (hs : cycSum l ≤ 32) : 1 ≤ A ∧ A ≤ 1000000 := by
  obtain ⟨a, h1, h2, h3, _⟩ := h
  have h4 : cycSum (l.take k) ≤ cycSum l := by
    have : cycSum l = cycSum (l.take k) + cycSum (l.drop k) := by rw [← cycSum_append, List.take_append_drop]
    omega
  have h5 : 3 ^ cycSum (l.take k) ≤ 3 ^ 32 := Nat.pow_le_pow_right (by omega) (by omega)
  refine ⟨by omega, ?_⟩
  by_cases h6 : a ≤ 1000000
  · omega
  · exfalso
    have h7 : 1000000 * 1000000 ≤ a * a := Nat.mul_le_mul (by omega) (by omega)
    have h8 : 1000000 * 1000000 * 1000000 ≤ a * a * a := Nat.mul_le_mul h7 (by omega)
    have h9 : (3 : Nat) ^ 32 = 1853020188851841 := by decide
    omega
theorem ordMid_next {l : List (List Nat)} {k : Nat} {A : Int} (h : ordMid l k A) (hk : k < l.length) (hc : 1 ≤ l[k].length) : ordMid l (k + 1) (ordF A l[k].length) := by
  obtain ⟨a, h1, h2, h3, h4⟩ := h
  obtain ⟨g, g1, g2, g3⟩ := gcdOut_pos (n := l[k].length) h1 h2
  rw [List.drop_eq_getElem_cons hk, ordL] at h4
  obtain ⟨q, hq⟩ := g3
  have e : ordF A l[k].length = ((q * l[k].length : Nat) : Int) := by
    have : a / g = q := by rw [hq]; exact Nat.mul_div_cancel_left _ (by omega)
    rw [ordF, g1, h1, ← Int.natCast_ediv, this]; push_cast; rfl
  have hq1 : 1 ≤ q := by
    rcases Nat.eq_zero_or_pos q with h0 | h0
    · subst h0; omega
    · exact h0
  have hqa : q ≤ a := by rw [hq]; exact Nat.le_mul_of_pos_left _ (by omega)
  refine ⟨q * l[k].length, e, Nat.mul_pos hq1 hc, ?_, h4⟩
  have h5 := cube_le l[k].length hc
  have h6 : cycSum (l.take (k + 1)) = cycSum (l.take k) + l[k].length := by
    rw [List.take_succ_eq_append_getElem hk, cycSum_append, cycSum, cycSum]; rfl
  rw [h6, Nat.pow_add]
  generalize l[k].length = n at *
  have h7 : q * q * q ≤ a * a * a := Nat.mul_le_mul (Nat.mul_le_mul hqa hqa) hqa
  have e3 : q * n * (q * n) * (q * n) = (q * q * q) * (n * n * n) := by
    simp only [Nat.mul_assoc, Nat.mul_comm, Nat.mul_left_comm]
  rw [e3]
  exact Nat.mul_le_mul (Nat.le_trans h7 h3) h5
theorem ordMid_quo {l : List (List Nat)} {k : Nat} {A : Int} (h : ordMid l k A) (hs : cycSum l ≤ 32) (n : Nat) : 1 ≤ gcdOut A n ∧ gcdOut A n ≤ 1000000 ∧ 0 ≤ A / gcdOut A n ∧ A / gcdOut A n ≤ 1000000 := by
  have hb := ordMid_bd h hs
  obtain ⟨a, h1, h2, _⟩ := h
  obtain ⟨g, g1, g2, g3⟩ := gcdOut_pos (n := n) h1 h2
  have := Nat.le_of_dvd (by omega) g3
  rw [g1]
  refine ⟨by omega, by omega, Int.ediv_nonneg (by omega) (by omega), ?_⟩
  have := Int.ediv_le_self (g : Int) (show 0 ≤ A by omega)
  omega
theorem isP_len {ns : List Nat} (hp : IsP ns) : (cycN ns).length ≤ 32 ∧ cycSum (cycN ns) ≤ 32 := by
  obtain ⟨h1, h2⟩ := cycN_ok hp
  have := cycSum_ge h2
  have := hp.1
  omega
set_option maxHeartbeats 800000 in
theorem i_SignOf (v : Value) (xs : List Int) (w : World) (h : Rd w v xs) (hn : xs.length ≤ 100000000) : Calls Try.prog 15 #[v] w fun e w' => e = .returned (.int .i64 (sgnOut xs)) ∧ Ext w w' := by
  have HRD := Lib.hid h
  have _hn := hn
  obtain ⟨a, cap, rfl, hc, hm, _⟩ := h
  obtain ⟨N, HN⟩ : ∃ N, Hid (N = xs.length) := ⟨_, Lib.hid rfl⟩
  rw [← HN.out] at hc HRD ⊢
  cases hv : validP xs
  · have G : Hid (sgnOut xs = 0) := Lib.hid (by simp [sgnOut, hv])
    go_enter Try.func15, Try.ntmps15
    go_wp2_with fail
    refine (i_ValidPermutation _ xs _ HRD.out hn).mono ?_
    rintro e w1 ⟨rfl, hd⟩
    rw [hv]
    go_wp2
    go_ret
    exact ⟨ret_i64 G.out.symm, hd⟩
  · obtain ⟨ns, hxs, hp⟩ := isP_of_valid hv
    have G : Hid (sgnOut xs = sgnL (cycN ns)) := Lib.hid (by rw [sgnOut, hv, if_pos rfl, hxs, casN_toNat])
    have HK : Hid (N = ns.length) := Lib.hid (by rw [HN.out, hxs, List.length_map])
    have HXS := Lib.hid hxs
    have HV := Lib.hid hv
    have HP := Lib.hid hp
    have hL32 := (isP_len hp).1
    have HOK := Lib.hid (cycN_ok hp)
    clear hv hp hxs
    go_enter Try.func15, Try.ntmps15
    go_wp2_with fail
    refine (i_ValidPermutation _ xs _ HRD.out hn).mono ?_
    rintro e w1 ⟨rfl, hd⟩
    rw [HV.out]
    have HX := Lib.hid hd
    clear hd
    go_wp2_with fail
    refine (i_cycles _ ns _ HP.out (by rw [← HXS.out]; exact HRD.out.ext HX.out)).mono ?_
    rintro e w2 ⟨v2, rfl, hL, hext⟩
    have HE2 := Lib.hid (HX.out.trans hext)
    obtain ⟨av, capv, hve, hve1, hve2, hcells⟩ := hL.form
    have HC := Lib.hid hcells
    subst hve
    clear hL hext hcells
    rw [List.length_map] at hve1 ⊢
    obtain ⟨L, HL⟩ : ∃ L, Hid (L = (cycN ns).length) := ⟨_, Lib.hid rfl⟩
    rw [← HL.out] at hve1 hL32 ⊢
    have HG : Hid (sgnL (cycN ns) = if (N - L) % 2 = 0 then 1 else -1) := Lib.hid (by rw [sgnL_par HOK.out.2, HOK.out.1, ← HK.out, ← HL.out])
    have hLN : L ≤ N := by have h1 := cycSum_ge HOK.out.2; have h2 := HOK.out.1; have h3 := HK.out; have h4 := HL.out; omega
    obtain ⟨Z, HZ⟩ : ∃ Z : Nat, Hid (Z = N - L) := ⟨_, Lib.hid rfl⟩
    have hZ : (N : Int) - (L : Int) = (Z : Int) := by have := HZ.out; omega
    rw [← HZ.out] at HG
    by_cases hz : Z % 2 = 0
    · have hz' : ((Z : Int) % 2 == 0) = true := by rw [beq_iff_eq]; omega
      have G2 : Hid (sgnOut xs = 1) := Lib.hid (by rw [G.out, HG.out, if_pos hz])
      clear hz
      go_wp2
      go_ret
      exact ⟨ret_i64 G2.out.symm, HE2.out⟩
    · have hz' : ((Z : Int) % 2 == 0) = false := by rw [beq_eq_false_iff_ne]; omega
      have G2 : Hid (sgnOut xs = -1) := Lib.hid (by rw [G.out, HG.out, if_neg hz])
      clear hz
      go_wp2
      go_ret
      exact ⟨ret_i64 G2.out.symm, HE2.out⟩
set_option maxHeartbeats 800000 in
theorem s_SignOf (v : Value) (xs : List Int) (w : World) (h : Rd w v xs) (hn : xs.length ≤ 100000000) : Calls Try.prog 13 #[v] w fun e w' => e = .returned (.int .i64 (sgnOut xs)) ∧ Ext w w' := by
  have HRD := Lib.hid h
  have _hn := hn
  obtain ⟨a, cap, rfl, hc, hm, _⟩ := h
  obtain ⟨N, HN⟩ : ∃ N, Hid (N = xs.length) := ⟨_, Lib.hid rfl⟩
  rw [← HN.out] at hc HRD ⊢
  cases hv : validP xs
  · have G : Hid (sgnOut xs = 0) := Lib.hid (by simp [sgnOut, hv])
    go_enter Try.func13, Try.ntmps13
    go_wp2_with fail
    refine (s_l04Ok _ xs _ HRD.out  ).mono ?_
    rintro e w1 ⟨rfl, hd⟩
    rw [hv]
    go_wp2
    go_ret
    exact ⟨ret_i64 G.out.symm, hd.ext⟩
  · obtain ⟨ns, hxs, hp⟩ := isP_of_valid hv
    have G : Hid (sgnOut xs = sgnL (cycN ns)) := Lib.hid (by rw [sgnOut, hv, if_pos rfl, hxs, casN_toNat])
    have HK : Hid (N = ns.length) := Lib.hid (by rw [HN.out, hxs, List.length_map])
    have HXS := Lib.hid hxs
    have HV := Lib.hid hv
    have HP := Lib.hid hp
    have hL32 := (isP_len hp).1
    have HOK := Lib.hid (cycN_ok hp)
    clear hv hp hxs
    go_enter Try.func13, Try.ntmps13
    go_wp2_with fail
    refine (s_l04Ok _ xs _ HRD.out  ).mono ?_
    rintro e w1 ⟨rfl, hd⟩
    rw [HV.out]
    have HX := Lib.hid hd.ext
    clear hd
    go_wp2_with fail
    refine (s_cycles _ ns _ HP.out (by rw [← HXS.out]; exact HRD.out.ext HX.out)).mono ?_
    rintro e w2 ⟨v2, rfl, hL, hext⟩
    have HE2 := Lib.hid (HX.out.trans hext)
    obtain ⟨av, capv, hve, hve1, hve2, hcells⟩ := hL.form
    have HC := Lib.hid hcells
    subst hve
    clear hL hext hcells
    rw [List.length_map] at hve1 ⊢
    obtain ⟨L, HL⟩ : ∃ L, Hid (L = (cycN ns).length) := ⟨_, Lib.hid rfl⟩
    rw [← HL.out] at hve1 hL32 ⊢
    go_wp2
    go_loop [4, 5] (fun q i => ∃ (k : Nat) (A : Int), k ≤ L ∧ i = .int .i64 k ∧ q = .int .i64 A ∧ Hid (sgnMid (cycN ns) k A)) (fun _ i => L - (intOf i).toNat)
    case atStart => exact ⟨0, 1, by omega, rfl, rfl, Lib.hid ⟨by simp, .inl rfl⟩⟩
    case round =>
      obtain ⟨k, A, hk, rfl, rfl, hmid⟩ := hrel
      have hA : -1 ≤ A ∧ A ≤ 1 := by rcases hmid.out.2 with h | h <;> omega
      obtain ⟨hA1, hA2⟩ := hA
      by_cases hlt : k < L
      · have hk' : k < (cycN ns).length := by rw [← HL.out]; exact hlt
        obtain ⟨g, rfl, hg0, hg1, hall⟩ := HC.out (by rw [List.length_map]; omega)
        obtain ⟨b, n, c, hcell, hown, hnl, hc2⟩ := hall k (by rw [List.length_map]; exact hk')
        have HNL : Hid (n = (cycN ns)[k].length) := Lib.hid (by rw [hnl, List.getElem_map, List.length_map])
        clear hall hown hnl
        by_cases hz : n % 2 = 0
        · have hz' : ((n : Int) % 2 == 0) = true := by rw [beq_iff_eq]; omega
          have HM := Lib.hid (sgnMid_even hmid.out hk' (by rw [← HNL.out]; exact hz))
          clear hz hmid
          go_wp2
          exact ⟨⟨k + 1, -A, by omega, by go_num, rfl, HM⟩, by simp only [intOf]; omega⟩
        · have hz' : ((n : Int) % 2 == 0) = false := by rw [beq_eq_false_iff_ne]; omega
          have HM := Lib.hid (sgnMid_odd hmid.out hk' (by rw [← HNL.out]; exact hz))
          clear hz hmid
          go_wp2
          exact ⟨⟨k + 1, A, by omega, by go_num, rfl, HM⟩, by simp only [intOf]; omega⟩
      · obtain rfl : k = L := by omega
        have HM : Hid (A = sgnOut xs) := Lib.hid (by
          have := hmid.out.1
          rw [List.drop_of_length_le (by rw [← HL.out]; omega), sgnL, Int.mul_one] at this
          rw [this, G.out])
        clear hmid
        go_wp2
        go_ret
        exact ⟨ret_i64 HM.out, HE2.out⟩
theorem l_SignOf (w : World) (v0 : Value) (xs0 : List Int) (h0 : Rd w v0 xs0) :
    Calls Try.prog 3 #[v0] w fun e w' => e = .returned (.bool true) ∧ Ext w w' := by
  have r0_0 := h0
  obtain ⟨ad0, cap0, rfl, hc0, hm0, _⟩ := h0
  by_cases hl0 : 1048576 < xs0.length
  · go_enter Try.func3, Try.ntmps3
    go_wp2
    go_ret
    exact ⟨rfl, Ext.refl _⟩
  have X0 : Ext w w := Ext.refl w
  go_enter Try.func3, Try.ntmps3
  go_wp2_with fail
  refine (l_toInt64S _ xs0 _ (by omega) r0_0).mono ?_
  rintro e w1 ⟨u_s0, rfl, s0_1, x1⟩
  have z1 := x1.size
  have X1 : Ext w w1 := X0.trans x1
  have r0_1 := r0_0.ext X1
  go_wp2_with fail
  refine (s_SignOf _ xs0 _ s0_1.rd (by omega)).mono ?_
  rintro e w2 ⟨rfl, x2⟩
  have z2 := x2.size
  have X2 : Ext w w2 := X1.trans x2
  have s0_2 := s0_1.ext x2
  have r0_2 := r0_0.ext X2
  go_wp2_with fail
  refine (l_toInt64S _ xs0 _ (by omega) r0_2).mono ?_
  rintro e w3 ⟨u_x0x, rfl, x0x_3, x3⟩
  have z3 := x3.size
  have X3 : Ext w w3 := X2.trans x3
  have s0_3 := s0_2.ext x3
  have r0_3 := r0_0.ext X3
  go_wp2_with fail
  refine (i_SignOf _ xs0 _ x0x_3.rd (by omega)).mono ?_
  rintro e w4 ⟨rfl, x4⟩
  have z4 := x4.size
  have X4 : Ext w w4 := X3.trans x4
  have s0_4 := s0_3.ext x4
  have x0x_4 := x0x_3.ext x4
  have r0_4 := r0_0.ext X4
  go_wp2_with fail
  refine (l_toInt64S _ xs0 _ (by omega) r0_4).mono ?_
  rintro e w5 ⟨u_t0, rfl, t0_5, x5⟩
  have z5 := x5.size
  have X5 : Ext w w5 := X4.trans x5
  have s0_5 := s0_4.ext x5
  have x0x_5 := x0x_4.ext x5
  have r0_5 := r0_0.ext X5
  go_wp2_with fail
  refine (l_eqInt64S_t _ _ xs0 _ x0x_5.rd t0_5.rd).mono ?_
  rintro e w6 ⟨rfl, d6⟩
  have x6 := d6.ext
  have z6 := x6.size
  have X6 : Ext w w6 := X5.trans x6
  have s0_6 := s0_5.ext x6
  have x0x_6 := x0x_5.ext x6
  have t0_6 := t0_5.ext x6
  have r0_6 := r0_0.ext X6
  go_wp2
  go_ret
  exact ⟨rfl, X6⟩

end Go.Proofs.Ytloacmfafccofaa
