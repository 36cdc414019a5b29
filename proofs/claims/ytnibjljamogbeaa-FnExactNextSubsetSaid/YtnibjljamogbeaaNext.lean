/- NextSubset: the walks of the program and of the reference, and the law. No condition. -/
import Derived.Test.YtnibjljamogbeaaRankS
import Derived.Test.YtnibjljamogbeaaUnrank
import Derived.Test.YtnibjljamogbeaaClone
namespace Go.Proofs.Ytnibjljamogbeaa
open Go.RowKit

def nextOf (n : Int) (xs : List Int) : Option (List Nat) := if validB xs n then nxt n.toNat (xs.map Int.toNat) else none
def nextOut (n : Int) (xs : List Int) : List Int := match nextOf n xs with | some ys => casts ys | none => []
def nextOk (n : Int) (xs : List Int) : Bool := (nextOf n xs).isSome
theorem nxt_step {n : Nat} {ns : List Nat} {t : Nat} (ht : t < ns.length) (h : nxt n (ns.drop (t + 1)) = none) (he : ns[t] + (ns.length - t) = n) : nxt n (ns.drop t) = none := by
  rw [List.drop_eq_getElem_cons ht, nxt, h]
  have : ns[t] + ((ns.drop (t + 1)).length + 1) = n := by rw [List.length_drop]; omega
  simp only [this, if_true]
theorem nxt_at {n : Nat} : ∀ (ns : List Nat) (t : Nat) (ht : t < ns.length), nxt n (ns.drop (t + 1)) = none → ns[t] + (ns.length - t) ≠ n → nxt n ns = some (ns.take t ++ runUp (ns[t] + 1) (ns.length - t))
  | x :: r, 0, ht, h, he => by
    simp only [List.drop_succ_cons, List.drop_zero] at h
    simp only [List.getElem_cons_zero, List.length_cons, Nat.sub_zero] at he
    rw [nxt, h]
    simp [he]
  | x :: r, t + 1, ht, h, he => by
    have h2 := nxt_at r t (by simpa using ht) (by simpa using h) (by simpa using he)
    rw [nxt, h2]
    simp
theorem runUp_get (a : Nat) : ∀ (m p : Nat) (h : p < (runUp a m).length), (runUp a m)[p] = a + p := by
  intro m
  induction m generalizing a with
  | zero => intro p h; simp [runUp] at h
  | succ m ih =>
    intro p h
    cases p with
    | zero => simp [runUp]
    | succ p =>
      simp only [runUp, List.getElem_cons_succ]
      rw [ih]; omega
theorem up_lt {n : Nat} : ∀ {lo : Nat} {ns : List Nat}, Up n lo ns → ∀ t (h : t < ns.length), ns[t] < n
  | _, x :: r, h, 0, _ => h.2.1
  | _, x :: r, h, t + 1, ht => by
    rw [List.getElem_cons_succ]
    exact up_lt h.2.2 t (by simpa using ht)
theorem next_bd (n : Int) (xs : List Int) : (nextOut n xs).length ≤ 3000000 := by
  unfold nextOut nextOf
  split
  · rename_i ys h
    split at h
    · rename_i hv
      obtain ⟨h0, h1, ns, rfl, hup⟩ := valid_nat hv
      rw [map_toNat] at h
      have h2 := (nxt_some hup (by omega) h).1.len (by omega)
      rw [List.length_map]; omega
    · cases h
  · simp

set_option maxHeartbeats 800000 in
theorem i_NextSubset (n : Int) (v : Value) (xs : List Int) (w : World) (h : Rd w v xs) :
    Calls Try.prog 45 #[.int .i64 n, v] w (RetIntsB w (nextOut n xs) (nextOk n xs)) := by
  have HRD := Lib.hid h
  cases hv : validB xs n
  · have G : Hid (nextOut n xs = []) := Lib.hid (by simp [nextOut, nextOf, hv])
    have G2 : Hid (nextOk n xs = false) := Lib.hid (by simp [nextOk, nextOf, hv])
    clear h
    go_enter Try.func45, Try.ntmps45
    go_wp2_with (go_at_call 68; refine (i_ValidSet _ xs _ _ HRD.out).mono ?_; rintro e w1 ⟨rfl, rfl⟩)
    go_ret2
    exact ⟨_, by rw [G2.out]; rfl, by rw [G.out]; exact OwnV.nil _ _ _, Ext.refl _⟩
  · obtain ⟨hn0, hn1, ns, hxs, hup⟩ := valid_nat hv
    obtain ⟨N, rfl⟩ := Int.eq_ofNat_of_zero_le hn0
    rw [Int.toNat_natCast] at hup
    have HN : Hid (nextOf N xs = nxt N ns) := Lib.hid (by rw [nextOf, hv, hxs, map_toNat]; rfl)
    obtain ⟨O1, HO1⟩ : ∃ O1, Hid (O1 = nextOut N xs) := ⟨_, Lib.hid rfl⟩
    obtain ⟨O2, HO2⟩ : ∃ O2, Hid (O2 = nextOk N xs) := ⟨_, Lib.hid rfl⟩
    rw [← HO1.out, ← HO2.out]
    have hlen : ns.length ≤ N := by have := hup.len (by omega); omega
    obtain ⟨K, HK⟩ : ∃ K, Hid (K = ns.length) := ⟨_, Lib.hid rfl⟩
    have HKX : Hid (xs.length = K) := Lib.hid (by rw [HK.out, hxs, List.length_map])
    obtain ⟨a, cap, rfl, hc, hm, hr⟩ := h
    have HC : Hid (0 < K → ∃ b o, a = some ⟨b, o, none⟩ ∧ b < w.heap.size ∧ ∀ i (h : i < ns.length), w.cell? ⟨b, o + i, none⟩ = some (.int .i64 (ns[i] : Nat))) := Lib.hid (fun hk => by
      obtain ⟨b, o, h1, h3, h2⟩ := hr (by rw [HKX.out]; exact hk)
      refine ⟨b, o, h1, h3, fun i hi => ?_⟩
      rw [h2 i (by rw [HKX.out, HK.out]; exact hi)]
      simp [hxs])
    have HX : Hid (xs = casts ns) := Lib.hid hxs
    have HUP := Lib.hid hup
    rw [← HK.out] at hlen
    have HS : Hid (nxt N (ns.drop K) = none) := Lib.hid (by rw [HK.out, List.drop_length]; rfl)
    clear hr hxs hup
    rw [HKX.out] at hc HRD
    go_enter Try.func45, Try.ntmps45
    go_wp2_with (go_at_call 68; refine (i_ValidSet _ xs _ _ (by rw [HKX.out]; exact HRD.out)).mono ?_; rintro e w ⟨rfl, rfl⟩)
    rw [HKX.out]
    go_wp2_with (go_at_call 49; refine (i_size _ _ _ _ (by omega)).mono ?_; rintro e w ⟨rfl, rfl⟩)
    clear hv
    go_loop [7] (fun i => ∃ t : Nat, t ≤ K ∧ i = .int .i64 ((t : Int) - 1) ∧ Hid (nxt N (ns.drop t) = none)) (fun i => (intOf i + 1).toNat)
    case atStart => exact ⟨K, by omega, rfl, HS⟩
    case round =>
      obtain ⟨t1, ht, rfl, hmid⟩ := hrel
      by_cases h0 : 0 < t1
      · obtain ⟨t, rfl⟩ : ∃ t, t1 = t + 1 := ⟨t1 - 1, by omega⟩
        have ht' : t < ns.length := by rw [← HK.out]; omega
        obtain ⟨b, o, rfl, hb, hall⟩ := HC.out (by omega)
        have hx := hall t ht'
        obtain ⟨x, HXX⟩ : ∃ x, Hid (x = ns[t]) := ⟨_, Lib.hid rfl⟩
        rw [← HXX.out] at hx
        have hxN : x ≤ 32 := by
          have := up_lt HUP.out t ht'
          rw [HXX.out]; omega
        clear hall
        have hti : ((t + 1 : Nat) : Int) - 1 = (t : Int) := by omega
        rw [hti]
        by_cases he : x + (K - t) = N
        · have HM : Hid (nxt N (ns.drop t) = none) := Lib.hid (nxt_step ht' hmid.out (by rw [← HXX.out, ← HK.out]; exact he))
          have heI : ((x : Int) == (N : Int) - (K : Int) + (t : Int)) = true := by rw [beq_iff_eq]; omega
          clear hmid he
          go_wp2
          exact ⟨⟨t, by omega, rfl, HM⟩, by simp only [intOf]; omega⟩
        · have HE : Hid (nxt N ns = some (ns.take t ++ runUp (x + 1) (K - t))) := Lib.hid (by rw [HXX.out, HK.out]; exact nxt_at ns t ht' hmid.out (by rw [← HXX.out, ← HK.out]; exact he))
          have heI : ((x : Int) == (N : Int) - (K : Int) + (t : Int)) = false := by rw [beq_eq_false_iff_ne]; omega
          clear hmid he
          go_wp2_with fail
          refine (c_Clone _ xs _ (by rw [HKX.out]; omega) HRD.out).mono ?_
          rintro e w1 ⟨v', rfl, hown, hext⟩
          have hxlt : t < xs.length := by rw [HKX.out]; omega
          obtain ⟨g, cap', rfl, hcg, hg1, hg2⟩ := hown.head (by rw [List.length_map]; omega)
          rw [List.length_map, HKX.out] at hown hcg ⊢
          have hcap' : cap' ≤ 9223372036854775807 := by
            obtain ⟨_, _, h1, _, h3, _⟩ := hown.form
            cases h1; exact h3
          have HOW := Lib.hid hown
          have HEX := Lib.hid hext
          have hsz := hext.size
          clear hown hext hxlt
          go_wp2
          go_loopw [9] (fun i wr => ∃ (j : Nat) (ys : List Int), t ≤ j ∧ j ≤ K ∧ i = .int .i64 j ∧ Hid (ys.length = K) ∧ Hid (∀ p (hp : p < ys.length) (hp2 : p < ns.length), p < t → ys[p] = (ns[p] : Int)) ∧ Hid (∀ p (hp : p < ys.length), t ≤ p → p < j → ys[p] = (x : Int) + 1 + (p : Int) - (t : Int)) ∧ Hid (Own wr w.heap.size (.slice (some ⟨g, 0, none⟩) K cap') ys) ∧ Hid (Ext w wr)) (fun i _ => K - (intOf i).toNat)
          case atStart => exact ⟨t, xs, by omega, by omega, rfl, HKX, Lib.hid (fun p hp hp2 _ => by simp [HX.out]), Lib.hid (fun p hp h1 h2 => by omega), HOW, HEX⟩
          case round =>
            obtain ⟨j, ys, htj, hj, rfl, hl, hlo, hmi, hown, hext⟩ := hrel
            by_cases hlt : j < K
            · have hx2 := (hext.out.cell (p := ⟨b, o + t, none⟩) hb).trans hx
              have hc1 := hown.out.cell j (by rw [List.length_map]; have := hl.out; omega)
              have hf1 := hown.out.frozen j
              obtain ⟨hs1, hs2⟩ := hown.out.stored j (.int .i64 ((x : Int) + 1 + (j : Int) - (t : Int)))
              have HS2 : Hid (Own (wr.setCell ⟨g, j, none⟩ (.int .i64 ((x : Int) + 1 + (j : Int) - (t : Int)))) w.heap.size (.slice (some ⟨g, 0, none⟩) K cap') (ys.set j ((x : Int) + 1 + (j : Int) - (t : Int)))) := Lib.hid (by
                unfold Own; rw [List.map_set]; exact hs1)
              have HE2 : Hid (Ext w (wr.setCell ⟨g, j, none⟩ (.int .i64 ((x : Int) + 1 + (j : Int) - (t : Int))))) := Lib.hid (ext_app (e := 2) (v := .slice (some ⟨g, 0, none⟩) K cap') hext.out hown.out hs2)
              have HL : Hid ((ys.set j ((x : Int) + 1 + (j : Int) - (t : Int))).length = K) := Lib.hid (by rw [List.length_set]; exact hl.out)
              have HA : Hid (∀ p (hp : p < (ys.set j ((x : Int) + 1 + (j : Int) - (t : Int))).length) (hp2 : p < ns.length), p < t → (ys.set j ((x : Int) + 1 + (j : Int) - (t : Int)))[p] = (ns[p] : Int)) := Lib.hid (fun p hp hp2 h1 => by
                rw [List.getElem_set, if_neg (by omega)]; exact hlo.out p (by simpa using hp) hp2 h1)
              have HB : Hid (∀ p (hp : p < (ys.set j ((x : Int) + 1 + (j : Int) - (t : Int))).length), t ≤ p → p < j + 1 → (ys.set j ((x : Int) + 1 + (j : Int) - (t : Int)))[p] = (x : Int) + 1 + (p : Int) - (t : Int)) := Lib.hid (fun p hp h1 h2 => by
                rw [List.getElem_set]
                by_cases h3 : j = p
                · subst h3; rw [if_pos rfl]
                · rw [if_neg h3]; exact hmi.out p (by simpa using hp) h1 (by omega))
              generalize (ys.map (Value.int .i64))[j]'(by rw [List.length_map]; have := hl.out; omega) = old at hc1
              clear hs1 hs2 hown hext hl hlo hmi
              go_wp2
              exact ⟨⟨j + 1, _, by omega, by omega, by go_num, HL, HA, HB, HS2, HE2⟩, by simp only [intOf]; omega⟩
            · obtain rfl : j = K := by omega
              have HF : Hid (O1 = ys) := Lib.hid (by
                rw [HO1.out, nextOut, HN.out, HE.out]
                symm
                have h1 := hl.out
                have h2 := HK.out
                apply List.ext_getElem (by simp [runUp_len]; omega)
                intro p p1 p2
                by_cases h3 : p < t
                · rw [hlo.out p p1 (by omega) h3]
                  simp only [casts, List.getElem_map]
                  rw [List.getElem_append_left (by rw [List.length_take]; omega), List.getElem_take]
                · rw [hmi.out p p1 (by omega) (by omega)]
                  simp only [casts, List.getElem_map]
                  rw [List.getElem_append_right (by rw [List.length_take]; omega), runUp_get]
                  rw [List.length_take]
                  omega)
              have HF2 : Hid (O2 = true) := Lib.hid (by rw [HO2.out, nextOk, HN.out, HE.out]; rfl)
              clear hl hlo hmi
              go_wp2
              go_ret2
              exact ⟨_, by rw [HF2.out]; rfl, by rw [HF.out]; exact hown.out, hext.out⟩
      · obtain rfl : t1 = 0 := by omega
        have HF : Hid (O1 = []) := Lib.hid (by rw [HO1.out, nextOut, HN.out, show nxt N ns = none from by simpa using hmid.out])
        have HF2 : Hid (O2 = false) := Lib.hid (by rw [HO2.out, nextOk, HN.out, show nxt N ns = none from by simpa using hmid.out]; rfl)
        clear hmid
        go_wp2
        go_ret2
        exact ⟨_, by rw [HF2.out]; rfl, by rw [HF.out]; exact OwnV.nil _ _ _, Ext.refl _⟩
theorem s_NextSubset (n : Int) (v : Value) (xs : List Int) (w : World) (h : Rd w v xs) :
    Calls Try.prog 44 #[.int .i64 n, v] w (RetIntsB w (nextOut n xs) (nextOk n xs)) := by
  have HRD := Lib.hid h
  clear h
  cases hv : validB xs n
  · have G : Hid (nextOut n xs = []) := Lib.hid (by simp [nextOut, nextOf, hv])
    have G2 : Hid (nextOk n xs = false) := Lib.hid (by simp [nextOk, nextOf, hv])
    go_enter Try.func44, Try.ntmps44
    go_wp2_with (go_at_call 66; refine (s_ValidSet _ xs _ _ HRD.out).mono ?_; rintro e w1 ⟨rfl, hd⟩)
    go_ret2
    exact ⟨_, by rw [G2.out]; rfl, by rw [G.out]; exact OwnV.nil _ _ _, hd.ext⟩
  · obtain ⟨hn0, hn1, ns, hxs, hup⟩ := valid_nat hv
    have HV := Lib.hid hv
    obtain ⟨N, rfl⟩ := Int.eq_ofNat_of_zero_le hn0
    rw [Int.toNat_natCast] at hup
    have HN : Hid (nextOf N xs = nxt N ns) := Lib.hid (by rw [nextOf, hv, hxs, map_toNat]; rfl)
    have hlen : ns.length ≤ N := by have := hup.len (by omega); omega
    obtain ⟨K, HK⟩ : ∃ K, Hid (K = ns.length) := ⟨_, Lib.hid rfl⟩
    have HKX : Hid (xs.length = K) := Lib.hid (by rw [HK.out, hxs, List.length_map])
    obtain ⟨R, HR⟩ : ∃ R : Nat, Hid (R = rk N 0 ns) := ⟨_, Lib.hid rfl⟩
    have HRK : Hid (rankOf N xs = (R : Int)) := Lib.hid (by rw [rankOf, hxs, map_toNat, HR.out]; rfl)
    obtain ⟨B, HB⟩ : ∃ B : Nat, Hid (B = binom N K) := ⟨_, Lib.hid rfl⟩
    have HCH : Hid (choose (N : Int) (K : Int) = (B : Int)) := Lib.hid (by rw [HB.out]; exact choose_nat N K rfl rfl (by omega))
    have hRB : R < B := by rw [HR.out, HB.out, HK.out]; have := rk_lt hup; simpa using this
    have hB : B ≤ 4294967296 := by
      rw [HB.out]
      have := binom_le N K
      have := Nat.pow_le_pow_right (n := 2) (by omega) (show N ≤ 32 by omega)
      omega
    rw [← HK.out] at hlen
    obtain ⟨a, cap, hva, hc, hm, _⟩ := HRD.out
    rw [HKX.out] at hva hc
    subst hva
    have HUP := Lib.hid hup
    have HXS := Lib.hid hxs
    clear hv hup hxs
    cases hnx : nxt N ns with
    | none =>
      have hR1 : R + 1 = B := by rw [HR.out, HB.out, HK.out]; have := nxt_none HUP.out (by omega) hnx; simpa using this
      have G : Hid (nextOut N xs = []) := Lib.hid (by simp [nextOut, HN.out, hnx])
      have G2 : Hid (nextOk N xs = false) := Lib.hid (by simp [nextOk, HN.out, hnx])
      clear hnx
      go_enter Try.func44, Try.ntmps44
      go_wp2_with fail
      refine (s_ValidSet _ xs _ _ HRD.out).mono ?_
      rintro e w1 ⟨rfl, hd⟩
      rw [HV.out]
      go_wp2_with fail
      refine (s_l01Rank _ _ xs _ HV.out (HRD.out.drawn hd)).mono ?_
      rintro e w2 ⟨rfl, rfl⟩
      rw [HRK.out]
      go_wp2_with fail
      refine (s_Choose _ _ _).mono ?_
      rintro e w2 ⟨rfl, rfl⟩
      rw [HCH.out]
      go_wp2
      go_ret2
      exact ⟨_, by rw [G2.out]; rfl, by rw [G.out]; exact OwnV.nil _ _ _, hd.ext⟩
    | some ys =>
      have hn1 := nxt_some HUP.out (by omega) hnx
      have hR1 : R + 1 < B := by
        rw [HR.out, HB.out, HK.out, ← hn1.2.2, ← hn1.2.1]
        have := rk_lt hn1.1
        simpa using this
      have G : Hid (nextOut N xs = casts ys) := Lib.hid (by simp [nextOut, HN.out, hnx])
      have G2 : Hid (nextOk N xs = true) := Lib.hid (by simp [nextOk, HN.out, hnx])
      have GU : Hid (casts (ur (N : Int).toNat (N : Int).toNat 0 (K : Int).toNat ((R : Int) + 1).toNat) = casts ys) := Lib.hid (by
        have h1 := ur_rk N hn1.1 (by omega)
        rw [hn1.2.2, hn1.2.1, ← HK.out, ← HR.out] at h1
        rw [show (N : Int).toNat = N from rfl, show (K : Int).toNat = K from rfl, show ((R : Int) + 1).toNat = R + 1 from by omega, h1])
      clear hnx hn1
      go_enter Try.func44, Try.ntmps44
      go_wp2_with fail
      refine (s_ValidSet _ xs _ _ HRD.out).mono ?_
      rintro e w1 ⟨rfl, hd⟩
      rw [HV.out]
      go_wp2_with fail
      refine (s_l01Rank _ _ xs _ HV.out (HRD.out.drawn hd)).mono ?_
      rintro e w2 ⟨rfl, rfl⟩
      rw [HRK.out]
      go_wp2_with fail
      refine (s_Choose _ _ _).mono ?_
      rintro e w2 ⟨rfl, rfl⟩
      rw [HCH.out]
      go_wp2_with fail
      refine (s_l01Rank _ _ xs _ HV.out (HRD.out.drawn hd)).mono ?_
      rintro e w2 ⟨rfl, rfl⟩
      rw [HRK.out]
      go_wp2_with fail
      refine (s_subset _ _ _ _ (by omega) (by omega) (by omega) (by omega) (by omega) (by rw [HCH.out]; omega)).mono ?_
      rintro e w3 ⟨u, rfl, hown, hext⟩
      rw [GU.out] at hown
      go_wp2
      go_ret2
      exact ⟨_, by rw [G2.out]; rfl, by rw [G.out]; exact hown.mono hd.ext.size, hd.ext.trans hext⟩
theorem l_NextSubset (w : World) (a0 : Int) (v1 : Value) (xs1 : List Int) (h1 : Rd w v1 xs1) :
    Calls Try.prog 14 #[.int .i64 a0, v1] w fun e w' => e = .returned (.bool true) ∧ Ext w w' := by
  have r1_0 := h1
  obtain ⟨ad1, cap1, rfl, hc1, hm1, _⟩ := h1
  by_cases hl1 : 1048576 < xs1.length
  · go_enter Try.func14, Try.ntmps14
    go_wp2
    go_ret
    exact ⟨rfl, Ext.refl _⟩
  have hbd := Lib.hid (show (nextOut a0 xs1).length ≤ 3000000 from next_bd a0 xs1)
  obtain ⟨R, HR⟩ : ∃ R : List Int, Hid (R = nextOut a0 xs1) := ⟨_, Lib.hid rfl⟩
  have hb : R.length ≤ 3000000 := by rw [HR.out]; exact hbd.out
  clear hbd
  have X0 : Ext w w := Ext.refl w
  go_enter Try.func14, Try.ntmps14
  go_wp2_with fail
  refine (l_toInt64S _ xs1 _ (by omega) r1_0).mono ?_
  rintro e w1 ⟨u_s1, rfl, s1_1, x1⟩
  have z1 := x1.size
  have X1 : Ext w w1 := X0.trans x1
  have r1_1 := r1_0.ext X1
  go_wp2_with fail
  refine (s_NextSubset a0 _ xs1 _ s1_1.rd ).mono ?_
  rintro e w2 ⟨u_wt, rfl, wt_2, x2⟩
  rw [← HR.out] at wt_2
  have z2 := x2.size
  have X2 : Ext w w2 := X1.trans x2
  have s1_2 := s1_1.ext x2
  have r1_2 := r1_0.ext X2
  go_wp2_with fail
  refine (l_toInt64S _ xs1 _ (by omega) r1_2).mono ?_
  rintro e w3 ⟨u_x1x, rfl, x1x_3, x3⟩
  have z3 := x3.size
  have X3 : Ext w w3 := X2.trans x3
  have s1_3 := s1_2.ext x3
  have wt_3 := wt_2.ext x3
  have r1_3 := r1_0.ext X3
  go_wp2_with fail
  refine (i_NextSubset a0 _ xs1 _ x1x_3.rd ).mono ?_
  rintro e w4 ⟨u_gt, rfl, gt_4, x4⟩
  rw [← HR.out] at gt_4
  have z4 := x4.size
  have X4 : Ext w w4 := X3.trans x4
  have s1_4 := s1_3.ext x4
  have wt_4 := wt_3.ext x4
  have x1x_4 := x1x_3.ext x4
  have r1_4 := r1_0.ext X4
  go_wp2_with fail
  refine (l_eqInt64S_t _ _ R _ gt_4.rd wt_4.rd).mono ?_
  rintro e w5 ⟨rfl, d5⟩
  have x5 := d5.ext
  have z5 := x5.size
  have X5 : Ext w w5 := X4.trans x5
  have s1_5 := s1_4.ext x5
  have wt_5 := wt_4.ext x5
  have x1x_5 := x1x_4.ext x5
  have gt_5 := gt_4.ext x5
  have r1_5 := r1_0.ext X5
  go_wp2_with fail
  refine (l_toInt64S _ xs1 _ (by omega) r1_5).mono ?_
  rintro e w6 ⟨u_t1, rfl, t1_6, x6⟩
  have z6 := x6.size
  have X6 : Ext w w6 := X5.trans x6
  have s1_6 := s1_5.ext x6
  have wt_6 := wt_5.ext x6
  have x1x_6 := x1x_5.ext x6
  have gt_6 := gt_5.ext x6
  have r1_6 := r1_0.ext X6
  go_wp2_with fail
  refine (l_eqInt64S_t _ _ xs1 _ x1x_6.rd t1_6.rd).mono ?_
  rintro e w7 ⟨rfl, d7⟩
  have x7 := d7.ext
  have z7 := x7.size
  have X7 : Ext w w7 := X6.trans x7
  have s1_7 := s1_6.ext x7
  have wt_7 := wt_6.ext x7
  have x1x_7 := x1x_6.ext x7
  have gt_7 := gt_6.ext x7
  have t1_7 := t1_6.ext x7
  have r1_7 := r1_0.ext X7
  go_wp2_with fail
  refine (l_markInt64S _ (1) xs1 _ _ (by omega) x1x_7).mono ?_
  rintro e w8 ⟨rfl, x1x_8, g8⟩
  have z8 := g8.size
  have X8 : Ext w w8 := Below.grown X7 g8 X7.size (fun j hj => Nat.le_trans (X2.size) (x1x_7.lt j hj).1)
  have s1_8 := s1_7.kept g8 (s1_1.apart x1x_7 (by omega))
  have wt_8 := wt_7.kept g8 (wt_2.apart x1x_7 (by omega))
  have gt_8 := gt_7.kept g8 (x1x_3.apart' gt_7 (by omega))
  have t1_8 := t1_7.kept g8 (x1x_3.apart' t1_7 (by omega))
  have r1_8 := r1_0.ext X8
  go_wp2_with fail
  refine (l_eqInt64S_t _ _ R _ gt_8.rd wt_8.rd).mono ?_
  rintro e w9 ⟨rfl, d9⟩
  have x9 := d9.ext
  have z9 := x9.size
  have X9 : Ext w w9 := X8.trans x9
  have s1_9 := s1_8.ext x9
  have wt_9 := wt_8.ext x9
  have x1x_9 := x1x_8.ext x9
  have gt_9 := gt_8.ext x9
  have t1_9 := t1_8.ext x9
  have r1_9 := r1_0.ext X9
  go_wp2_with fail
  refine (l_markInt64S _ (1) R _ _ (by omega) gt_9).mono ?_
  rintro e w10 ⟨rfl, gt_10, g10⟩
  have z10 := g10.size
  have X10 : Ext w w10 := Below.grown X9 g10 X9.size (fun j hj => Nat.le_trans (X3.size) (gt_9.lt j hj).1)
  have s1_10 := s1_9.kept g10 (s1_1.apart gt_9 (by omega))
  have wt_10 := wt_9.kept g10 (wt_2.apart gt_9 (by omega))
  have x1x_10 := x1x_9.kept g10 (x1x_3.apart gt_9 (by omega))
  have t1_10 := t1_9.kept g10 (gt_4.apart' t1_9 (by omega))
  have r1_10 := r1_0.ext X10
  go_wp2_with fail
  refine (l_heldInt64S _ 1 R.length _ (by omega) gt_10.rd).mono ?_
  rintro e _ ⟨rfl, rfl⟩
  go_wp2_with fail
  refine (l_toInt64S _ xs1 _ (by omega) r1_10).mono ?_
  rintro e w11 ⟨u_y1, rfl, y1_11, x11⟩
  have z11 := x11.size
  have X11 : Ext w w11 := X10.trans x11
  have s1_11 := s1_10.ext x11
  have wt_11 := wt_10.ext x11
  have x1x_11 := x1x_10.ext x11
  have gt_11 := gt_10.ext x11
  have t1_11 := t1_10.ext x11
  have r1_11 := r1_0.ext X11
  go_wp2_with fail
  refine (i_NextSubset a0 _ xs1 _ y1_11.rd ).mono ?_
  rintro e w12 ⟨u_ht, rfl, ht_12, x12⟩
  rw [← HR.out] at ht_12
  have z12 := x12.size
  have X12 : Ext w w12 := X11.trans x12
  have s1_12 := s1_11.ext x12
  have wt_12 := wt_11.ext x12
  have x1x_12 := x1x_11.ext x12
  have gt_12 := gt_11.ext x12
  have t1_12 := t1_11.ext x12
  have y1_12 := y1_11.ext x12
  have r1_12 := r1_0.ext X12
  go_wp2_with fail
  refine (l_eqInt64S_t _ _ R _ ht_12.rd wt_12.rd).mono ?_
  rintro e w13 ⟨rfl, d13⟩
  have x13 := d13.ext
  have z13 := x13.size
  have X13 : Ext w w13 := X12.trans x13
  have s1_13 := s1_12.ext x13
  have wt_13 := wt_12.ext x13
  have x1x_13 := x1x_12.ext x13
  have gt_13 := gt_12.ext x13
  have t1_13 := t1_12.ext x13
  have y1_13 := y1_12.ext x13
  have ht_13 := ht_12.ext x13
  have r1_13 := r1_0.ext X13
  go_wp2_with fail
  refine (l_heldInt64S _ 1 R.length _ (by omega) gt_13.rd).mono ?_
  rintro e _ ⟨rfl, rfl⟩
  go_wp2
  go_ret
  exact ⟨rfl, X13⟩

end Go.Proofs.Ytnibjljamogbeaa
