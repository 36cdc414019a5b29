/- RankPermutation: the walks of the program and of the reference, and the law. No condition. -/
import Derived.Test.YtloacmfafccofaaPermInv
import Derived.Test.YtloacmfafccofaaFact
import Derived.Test.YtloacmfafccofaaSize
namespace Go.Proofs.Ytloacmfafccofaa
open Go.RowKit

def cntL (x : Nat) : List Nat → Nat
  | [] => 0
  | y :: r => (if y < x then 1 else 0) + cntL x r
theorem cntL_le (x : Nat) : ∀ l, cntL x l ≤ l.length
  | [] => by simp [cntL]
  | y :: r => by have := cntL_le x r; rw [cntL, List.length_cons]; split <;> omega
def rkp : List Nat → Nat
  | [] => 0
  | x :: r => cntL x r * fct r.length + rkp r
theorem rkp_lt : ∀ l, rkp l < fct l.length
  | [] => by simp [rkp, fct]
  | x :: r => by
    have h1 := rkp_lt r
    have h2 := Nat.mul_le_mul_right (fct r.length) (cntL_le x r)
    rw [rkp, List.length_cons, fct, Nat.mul_add, Nat.mul_one, Nat.mul_comm (fct r.length) r.length]
    omega
def rkpMid (ns : List Nat) (i : Nat) (R : Int) : Prop := ∃ r : Nat, R = (r : Int) ∧ r + rkp (ns.drop i) = rkp ns
theorem rkpMid_bd {ns : List Nat} {i : Nat} {R : Int} (h : rkpMid ns i R) (hn : ns.length ≤ 12) : 0 ≤ R ∧ R ≤ 479001600 := by
  obtain ⟨r, h1, h2⟩ := h
  have h3 := rkp_lt ns
  have h4 := fct_mono hn
  rw [fct_12] at h4
  omega
def cntMid (x : Nat) (l : List Nat) (j : Nat) (L : Int) : Prop := ∃ q : Nat, L = (q : Int) ∧ q + cntL x (l.drop j) = cntL x l
theorem cntMid_bd {x : Nat} {l : List Nat} {j : Nat} {L : Int} (h : cntMid x l j L) (hl : l.length ≤ 12) : 0 ≤ L ∧ L ≤ 12 := by
  obtain ⟨q, h1, h2⟩ := h
  have := cntL_le x l
  omega
theorem cntMid_hit {x : Nat} {l : List Nat} {j : Nat} {L : Int} (h : cntMid x l j L) (hj : j < l.length) (hx : l[j] < x) : cntMid x l (j + 1) (L + 1) := by
  obtain ⟨q, h1, h2⟩ := h
  rw [List.drop_eq_getElem_cons hj, cntL, if_pos hx] at h2
  exact ⟨q + 1, by omega, by omega⟩
theorem cntMid_miss {x : Nat} {l : List Nat} {j : Nat} {L : Int} (h : cntMid x l j L) (hj : j < l.length) (hx : ¬ l[j] < x) : cntMid x l (j + 1) L := by
  obtain ⟨q, h1, h2⟩ := h
  rw [List.drop_eq_getElem_cons hj, cntL, if_neg hx] at h2
  exact ⟨q, by omega, by omega⟩
theorem rkpMid_next {ns : List Nat} {i : Nat} {R L F : Int} (h : rkpMid ns i R) (hi : i < ns.length) (hc : cntMid ns[i] (ns.drop (i + 1)) (ns.drop (i + 1)).length L) (hF : F = (fct (ns.length - 1 - i) : Nat)) : rkpMid ns (i + 1) (R + L * F) ∧ 0 ≤ L * F := by
  obtain ⟨r, h1, h2⟩ := h
  obtain ⟨q, h3, h4⟩ := hc
  rw [List.drop_length, cntL, Nat.add_zero] at h4
  rw [List.drop_eq_getElem_cons hi, rkp, ← h4, List.length_drop, show ns.length - (i + 1) = ns.length - 1 - i from by omega] at h2
  refine ⟨⟨r + q * fct (ns.length - 1 - i), ?_, by omega⟩, ?_⟩
  · rw [h1, h3, hF]; push_cast; rfl
  · rw [h3, hF, ← Int.natCast_mul]; omega
def rkpOut (xs : List Int) : Int := if validP xs then (if xs.length ≤ 12 then (rkp (xs.map Int.toNat) : Nat) else 0) else 0
def rkpCode (xs : List Int) : Int := if validP xs then (if xs.length ≤ 12 then 0 else 2) else 1

set_option maxHeartbeats 800000 in
theorem i_RankPermutation (v : Value) (xs : List Int) (w : World) (h : Rd w v xs) (hn : xs.length ≤ 100000000) : Calls Try.prog 18 #[v] w fun e w' => e = .returned (.tuple #[.int .i64 (rkpOut xs), .int .i64 (rkpCode xs)]) ∧ Ext w w' := by
  have HRD := Lib.hid h
  have _hn := hn
  obtain ⟨a, cap, rfl, hc, hm, _⟩ := h
  obtain ⟨N, HN⟩ : ∃ N, Hid (N = xs.length) := ⟨_, Lib.hid rfl⟩
  rw [← HN.out] at hc HRD ⊢
  cases hv : validP xs
  · have G : Hid (rkpOut xs = 0) := Lib.hid (by simp [rkpOut, hv])
    have G2 : Hid (rkpCode xs = 1) := Lib.hid (by simp [rkpCode, hv])
    go_enter Try.func18, Try.ntmps18
    go_wp2_with fail
    refine (i_ValidPermutation _ xs _ HRD.out hn).mono ?_
    rintro e w1 ⟨rfl, hd⟩
    rw [hv]
    go_wp2
    go_ret2
    exact ⟨ret_i64_2 (by rw [G.out]) (by rw [G2.out]), hd⟩
  · have HV := Lib.hid hv
    by_cases h12 : N ≤ 12
    · obtain ⟨ns, hxs, hp⟩ := isP_of_valid hv
      have G : Hid (rkpOut xs = (rkp ns : Nat)) := Lib.hid (by
        have h1 := HN.out
        rw [rkpOut, hv, if_pos rfl, if_pos (by omega), hxs, casN_toNat])
      have G2 : Hid (rkpCode xs = 0) := Lib.hid (by rw [rkpCode, hv, if_pos rfl, if_pos (by rw [← HN.out]; exact h12)])
      have HK : Hid (N = ns.length) := Lib.hid (by rw [HN.out, hxs, List.length_map])
      have HXS := Lib.hid hxs
      clear hv hp hxs
      go_enter Try.func18, Try.ntmps18
      go_wp2_with fail
      refine (i_ValidPermutation _ xs _ HRD.out hn).mono ?_
      rintro e w1 ⟨rfl, hd⟩
      rw [HV.out]
      have HX := Lib.hid hd
      have HC := (rd_cells (w := w1) (a := a) (n := N) (cap := cap) (ns := ns) (by rw [← HXS.out]; exact HRD.out.ext HX.out)).2.2.2
      clear hd
      go_wp2
      go_loopw [4, 18] (fun q i wr => ∃ (k : Nat) (R : Int), k ≤ N ∧ i = .int .i64 k ∧ q = .int .i64 R ∧ Hid (rkpMid ns k R) ∧ Hid (Drawn w1 wr)) (fun _ i _ => N - (intOf i).toNat)
      case atStart => exact ⟨0, 0, by omega, rfl, rfl, Lib.hid ⟨0, rfl, by simp⟩, Lib.hid (Drawn.refl _)⟩
      case round =>
        obtain ⟨k, R, hk, rfl, rfl, hmid, hdr⟩ := hrel
        obtain ⟨r1, r2⟩ := rkpMid_bd hmid.out (by rw [← HK.out]; exact h12)
        by_cases hlt : k < N
        · have hlt' : k < ns.length := by rw [← HK.out]; exact hlt
          obtain ⟨b, o, rfl, hb, hall⟩ := HC.out (by rw [← HK.out]; omega)
          have hx := (hdr.out.ext.cell (p := ⟨b, o + k, none⟩) hb).trans (hall k hlt')
          have HALL := Lib.hid hall
          obtain ⟨x, HXK⟩ : ∃ x, Hid (x = ns[k]) := ⟨_, Lib.hid rfl⟩
          obtain ⟨l, HL⟩ : ∃ l, Hid (l = ns.drop (k + 1)) := ⟨_, Lib.hid rfl⟩
          obtain ⟨M, HM⟩ : ∃ M : Nat, Hid (M = l.length) := ⟨_, Lib.hid rfl⟩
          have HGET : Hid (∀ j (h : j < l.length), ∃ h2 : k + 1 + j < ns.length, l[j] = ns[k + 1 + j]) := Lib.hid (by
            intro j hj
            have h3 : k + 1 + j < ns.length := by rw [HL.out, List.length_drop] at hj; omega
            refine ⟨h3, ?_⟩
            simp only [HL.out, List.getElem_drop])
          rw [← HXK.out] at hx
          have hk1 : N - (k + 1) = M := by rw [HM.out, HL.out, List.length_drop, HK.out]
          clear hall
          obtain ⟨c2, hc2⟩ : ∃ c2, cap - (k + 1) = c2 := ⟨_, rfl⟩
          go_wp2
          all_goals (
            try (rename cap = k + 1 => hcap; have HCAP := Lib.hid hcap; clear hcap)
            go_loop [7, 28] (fun c j => ∃ (t : Nat) (L : Int), t ≤ M ∧ j = .int .i64 t ∧ c = .int .i64 L ∧ Hid (cntMid x l t L)) (fun _ j => M - (intOf j).toNat)
            case atStart => exact ⟨0, 0, by omega, rfl, rfl, Lib.hid ⟨0, rfl, by simp⟩⟩
            case round =>
              obtain ⟨t, L, ht, rfl, rfl, hin⟩ := hrel
              obtain ⟨l1, l2⟩ := cntMid_bd hin.out (by rw [← HM.out]; omega)
              by_cases hlt2 : t < M
              · first
                | (exfalso; have h9 := HCAP.out; omega)
                | (have hcz : 0 < cap - (k + 1) := by omega
                   obtain ⟨h3, h4⟩ := HGET.out t (by rw [← HM.out]; exact hlt2)
                   have hy := (hdr.out.ext.cell (p := ⟨b, o + (k + 1 + t), none⟩) hb).trans (HALL.out (k + 1 + t) h3)
                   obtain ⟨y, HY⟩ : ∃ y, Hid (y = ns[k + 1 + t]) := ⟨_, Lib.hid rfl⟩
                   rw [← HY.out] at hy
                   have HLY : Hid (∃ h : t < l.length, l[t] = y) := Lib.hid ⟨by rw [← HM.out]; exact hlt2, by rw [h4, HY.out]⟩
                   rw [← Nat.add_assoc] at hy
                   clear h4
                   by_cases hyx : y < x
                   · have HN2 : Hid (cntMid x l (t + 1) (L + 1)) := Lib.hid (by obtain ⟨h5, h6⟩ := HLY.out; exact cntMid_hit hin.out h5 (by rw [h6]; exact hyx))
                     clear hin
                     go_wp2 <;> exact ⟨⟨t + 1, L + 1, by omega, by go_num, rfl, HN2⟩, by simp only [intOf]; omega⟩
                   · have HN2 : Hid (cntMid x l (t + 1) L) := Lib.hid (by obtain ⟨h5, h6⟩ := HLY.out; exact cntMid_miss hin.out h5 (by rw [h6]; exact hyx))
                     clear hin
                     go_wp2 <;> exact ⟨⟨t + 1, L, by omega, by go_num, rfl, HN2⟩, by simp only [intOf]; omega⟩)
              · obtain rfl : t = M := by omega
                obtain ⟨F, HF⟩ : ∃ F, Hid (F = fctI ((N : Int) - 1 - (k : Int))) := ⟨_, Lib.hid rfl⟩
                have HNX := Lib.hid (rkpMid_next (L := L) (F := F) hmid.out hlt' (by rw [← HXK.out, ← HL.out, ← HM.out]; exact hin.out) (by rw [HF.out, fctI, ← HK.out, show ((N : Int) - 1 - (k : Int)).toNat = N - 1 - k from by omega]))
                obtain ⟨p1, p2⟩ := rkpMid_bd HNX.out.1 (by rw [← HK.out]; exact h12)
                have p3 := HNX.out.2
                clear hin hmid
                go_wp2_with fail
                refine (i_size _ _ _ _ (by omega)).mono ?_
                rintro e w3 ⟨rfl, rfl⟩
                go_wp2_with fail
                refine (i_fct _ _ (by omega)).mono ?_
                rintro e w3 ⟨rfl, rfl⟩
                rw [← HF.out]
                go_wp2
                first
                | exact ⟨⟨k + 1, R + L * F, by omega, by go_num, rfl, Lib.hid HNX.out.1, hdr⟩, by simp only [intOf]; omega⟩
                | (refine And.intro ?fst ?snd
                   case snd =>
                     show N - (intOf (Value.int .i64 ((k : Int) + 1))).toNat < N - (intOf (Value.int .i64 (k : Int))).toNat
                     simp only [intOf]; omega
                   case fst =>
                     repeat apply Exists.intro
                     refine And.intro ?rel ?frm
                     case frm => rw [HCAP.out]
                     case rel => exact ⟨k + 1, R + L * F, by omega, by go_num, rfl, Lib.hid HNX.out.1, hdr⟩))
        · obtain rfl : k = N := by omega
          have HE : Hid (R = (rkp ns : Nat)) := Lib.hid (by
            obtain ⟨r, h1, h2⟩ := hmid.out
            rw [List.drop_of_length_le (by rw [← HK.out]; omega), rkp] at h2
            omega)
          clear hmid
          go_wp2
          go_ret2
          exact ⟨ret_i64_2 (by rw [G.out, HE.out]) (by rw [G2.out]), HX.out.trans hdr.out.ext⟩
    · have G : Hid (rkpOut xs = 0) := Lib.hid (by rw [rkpOut, hv, if_pos rfl, if_neg (by rw [← HN.out]; exact h12)])
      have G2 : Hid (rkpCode xs = 2) := Lib.hid (by rw [rkpCode, hv, if_pos rfl, if_neg (by rw [← HN.out]; exact h12)])
      clear hv
      go_enter Try.func18, Try.ntmps18
      go_wp2_with fail
      refine (i_ValidPermutation _ xs _ HRD.out hn).mono ?_
      rintro e w1 ⟨rfl, hd⟩
      rw [HV.out]
      go_wp2
      go_ret2
      exact ⟨ret_i64_2 (by rw [G.out]) (by rw [G2.out]), hd⟩
set_option maxHeartbeats 800000 in
theorem s_RankPermutation (v : Value) (xs : List Int) (w : World) (h : Rd w v xs) (hn : xs.length ≤ 100000000) : Calls Try.prog 17 #[v] w fun e w' => e = .returned (.tuple #[.int .i64 (rkpOut xs), .int .i64 (rkpCode xs)]) ∧ Ext w w' := by
  have HRD := Lib.hid h
  have _hn := hn
  obtain ⟨a, cap, rfl, hc, hm, _⟩ := h
  obtain ⟨N, HN⟩ : ∃ N, Hid (N = xs.length) := ⟨_, Lib.hid rfl⟩
  rw [← HN.out] at hc HRD ⊢
  cases hv : validP xs
  · have G : Hid (rkpOut xs = 0) := Lib.hid (by simp [rkpOut, hv])
    have G2 : Hid (rkpCode xs = 1) := Lib.hid (by simp [rkpCode, hv])
    go_enter Try.func17, Try.ntmps17
    go_wp2_with fail
    refine (s_l04Ok _ xs _ HRD.out  ).mono ?_
    rintro e w1 ⟨rfl, hd⟩
    rw [hv]
    go_wp2
    go_ret2
    exact ⟨ret_i64_2 (by rw [G.out]) (by rw [G2.out]), hd.ext⟩
  · have HV := Lib.hid hv
    by_cases h12 : N ≤ 12
    · obtain ⟨ns, hxs, hp⟩ := isP_of_valid hv
      have G : Hid (rkpOut xs = (rkp ns : Nat)) := Lib.hid (by
        have h1 := HN.out
        rw [rkpOut, hv, if_pos rfl, if_pos (by omega), hxs, casN_toNat])
      have G2 : Hid (rkpCode xs = 0) := Lib.hid (by rw [rkpCode, hv, if_pos rfl, if_pos (by rw [← HN.out]; exact h12)])
      have HK : Hid (N = ns.length) := Lib.hid (by rw [HN.out, hxs, List.length_map])
      have HXS := Lib.hid hxs
      clear hv hp hxs
      go_enter Try.func17, Try.ntmps17
      go_wp2_with fail
      refine (s_l04Ok _ xs _ HRD.out  ).mono ?_
      rintro e w1 ⟨rfl, hd⟩
      rw [HV.out]
      have HX := Lib.hid hd.ext
      have HC := (rd_cells (w := w1) (a := a) (n := N) (cap := cap) (ns := ns) (by rw [← HXS.out]; exact HRD.out.ext HX.out)).2.2.2
      clear hd
      go_wp2
      go_loopw [5, 6] (fun q i wr => ∃ (k : Nat) (R : Int), k ≤ N ∧ i = .int .i64 k ∧ q = .int .i64 R ∧ Hid (rkpMid ns k R) ∧ Hid (Drawn w1 wr)) (fun _ i _ => N - (intOf i).toNat)
      case atStart => exact ⟨0, 0, by omega, rfl, rfl, Lib.hid ⟨0, rfl, by simp⟩, Lib.hid (Drawn.refl _)⟩
      case round =>
        obtain ⟨k, R, hk, rfl, rfl, hmid, hdr⟩ := hrel
        obtain ⟨r1, r2⟩ := rkpMid_bd hmid.out (by rw [← HK.out]; exact h12)
        by_cases hlt : k < N
        · have hlt' : k < ns.length := by rw [← HK.out]; exact hlt
          obtain ⟨b, o, rfl, hb, hall⟩ := HC.out (by rw [← HK.out]; omega)
          have hx := (hdr.out.ext.cell (p := ⟨b, o + k, none⟩) hb).trans (hall k hlt')
          have HALL := Lib.hid hall
          obtain ⟨x, HXK⟩ : ∃ x, Hid (x = ns[k]) := ⟨_, Lib.hid rfl⟩
          obtain ⟨l, HL⟩ : ∃ l, Hid (l = ns.drop (k + 1)) := ⟨_, Lib.hid rfl⟩
          obtain ⟨M, HM⟩ : ∃ M : Nat, Hid (M = l.length) := ⟨_, Lib.hid rfl⟩
          have HGET : Hid (∀ j (h : j < l.length), ∃ h2 : k + 1 + j < ns.length, l[j] = ns[k + 1 + j]) := Lib.hid (by
            intro j hj
            have h3 : k + 1 + j < ns.length := by rw [HL.out, List.length_drop] at hj; omega
            refine ⟨h3, ?_⟩
            simp only [HL.out, List.getElem_drop])
          rw [← HXK.out] at hx
          have hk1 : N - (k + 1) = M := by rw [HM.out, HL.out, List.length_drop, HK.out]
          clear hall
          skip
          go_wp2
          go_loopw [7, 8] (fun c j wr2 => ∃ (t m : Nat) (L : Int), t ≤ M ∧ Hid (m = k + 1 + t) ∧ j = .int .i64 m ∧ c = .int .i64 L ∧ Hid (cntMid x l t L) ∧ Hid (Drawn w1 wr2)) (fun _ j _ => N - (intOf j).toNat)
          case atStart => exact ⟨0, k + 1, 0, by omega, Lib.hid (by omega), by go_num, rfl, Lib.hid ⟨0, rfl, by simp⟩, hdr⟩
          case round =>
            clear hx
            obtain ⟨t, m, L, ht, hmt, rfl, rfl, hin, hdr⟩ := hrel
            obtain ⟨l1, l2⟩ := cntMid_bd hin.out (by rw [← HM.out]; omega)
            by_cases hlt2 : t < M
            · obtain ⟨h3, h4⟩ := HGET.out t (by rw [← HM.out]; exact hlt2)
              have hy := (hdr.out.ext.cell (p := ⟨b, o + (k + 1 + t), none⟩) hb).trans (HALL.out (k + 1 + t) h3)
              have hx := (hdr.out.ext.cell (p := ⟨b, o + k, none⟩) hb).trans (HALL.out k hlt')
              obtain ⟨y, HY⟩ : ∃ y, Hid (y = ns[k + 1 + t]) := ⟨_, Lib.hid rfl⟩
              rw [← HXK.out] at hx
              rw [← HY.out, ← hmt.out] at hy
              have hmN : m < N := by have := hmt.out; omega
              have HLY : Hid (∃ h : t < l.length, l[t] = y) := Lib.hid ⟨by rw [← HM.out]; exact hlt2, by rw [h4, HY.out]⟩
              clear h4
              by_cases hyx : y < x
              · have HN2 : Hid (cntMid x l (t + 1) (L + 1)) := Lib.hid (by obtain ⟨h5, h6⟩ := HLY.out; exact cntMid_hit hin.out h5 (by rw [h6]; exact hyx))
                have hdec : decide (y < x) = true := by simpa using hyx
                clear hin
                go_wp2
                go_quiet (fail)
                go_wp2
                exact ⟨⟨t + 1, m + 1, L + 1, by omega, Lib.hid (by have := hmt.out; omega), by go_num, rfl, HN2, Lib.hid (hdr.out.drewN _)⟩, by simp only [intOf]; omega⟩
              · have HN2 : Hid (cntMid x l (t + 1) L) := Lib.hid (by obtain ⟨h5, h6⟩ := HLY.out; exact cntMid_miss hin.out h5 (by rw [h6]; exact hyx))
                have hdec : decide (y < x) = false := by simpa using hyx
                clear hin
                go_wp2
                go_quiet (fail)
                go_wp2
                exact ⟨⟨t + 1, m + 1, L, by omega, Lib.hid (by have := hmt.out; omega), by go_num, rfl, HN2, Lib.hid (hdr.out.drewN _)⟩, by simp only [intOf]; omega⟩
            · obtain rfl : t = M := by omega
              have hmN : N ≤ m := by have := hmt.out; omega
              obtain ⟨F, HF⟩ : ∃ F, Hid (F = fctI ((N : Int) - 1 - (k : Int))) := ⟨_, Lib.hid rfl⟩
              have HNX := Lib.hid (rkpMid_next (L := L) (F := F) hmid.out hlt' (by rw [← HXK.out, ← HL.out, ← HM.out]; exact hin.out) (by rw [HF.out, fctI, ← HK.out, show ((N : Int) - 1 - (k : Int)).toNat = N - 1 - k from by omega]))
              obtain ⟨p1, p2⟩ := rkpMid_bd HNX.out.1 (by rw [← HK.out]; exact h12)
              have p3 := HNX.out.2
              clear hin hmid
              go_wp2_with fail
              refine (s_fct _ _ (by omega)).mono ?_
              rintro e w3 ⟨rfl, rfl⟩
              rw [← HF.out]
              go_wp2
              exact ⟨⟨k + 1, R + L * F, by omega, by go_num, rfl, Lib.hid HNX.out.1, hdr⟩, by simp only [intOf]; omega⟩
        · obtain rfl : k = N := by omega
          have HE : Hid (R = (rkp ns : Nat)) := Lib.hid (by
            obtain ⟨r, h1, h2⟩ := hmid.out
            rw [List.drop_of_length_le (by rw [← HK.out]; omega), rkp] at h2
            omega)
          clear hmid
          go_wp2
          go_ret2
          exact ⟨ret_i64_2 (by rw [G.out, HE.out]) (by rw [G2.out]), HX.out.trans hdr.out.ext⟩
    · have G : Hid (rkpOut xs = 0) := Lib.hid (by rw [rkpOut, hv, if_pos rfl, if_neg (by rw [← HN.out]; exact h12)])
      have G2 : Hid (rkpCode xs = 2) := Lib.hid (by rw [rkpCode, hv, if_pos rfl, if_neg (by rw [← HN.out]; exact h12)])
      clear hv
      go_enter Try.func17, Try.ntmps17
      go_wp2_with fail
      refine (s_l04Ok _ xs _ HRD.out  ).mono ?_
      rintro e w1 ⟨rfl, hd⟩
      rw [HV.out]
      go_wp2
      go_ret2
      exact ⟨ret_i64_2 (by rw [G.out]) (by rw [G2.out]), hd.ext⟩
theorem l_RankPermutation (w : World) (v0 : Value) (xs0 : List Int) (h0 : Rd w v0 xs0) :
    Calls Try.prog 4 #[v0] w fun e w' => e = .returned (.bool true) ∧ Ext w w' := by
  have r0_0 := h0
  obtain ⟨ad0, cap0, rfl, hc0, hm0, _⟩ := h0
  by_cases hl0 : 1048576 < xs0.length
  · go_enter Try.func4, Try.ntmps4
    go_wp2
    go_ret
    exact ⟨rfl, Ext.refl _⟩
  have X0 : Ext w w := Ext.refl w
  go_enter Try.func4, Try.ntmps4
  go_wp2_with fail
  refine (l_toInt64S _ xs0 _ (by omega) r0_0).mono ?_
  rintro e w1 ⟨u_s0, rfl, s0_1, x1⟩
  have z1 := x1.size
  have X1 : Ext w w1 := X0.trans x1
  have r0_1 := r0_0.ext X1
  go_wp2_with fail
  refine (s_RankPermutation _ xs0 _ s0_1.rd (by omega)).mono ?_
  rintro e w2 ⟨rfl, x2⟩
  have z2 := x2.size
  have X2 : Ext w w2 := X1.trans x2
  have s0_2 := s0_1.ext x2
  have r0_2 := r0_0.ext X2
  go_wp2_with fail
  refine (l_toInt64S _ xs0 _ (by omega) r0_2).mono ?_
  rintro e w3 ⟨u_x0x, rfl, x0x_3, x3⟩
  have z3 := x3.size
  have X3 : Ext w w3 := X2.trans x3
  have s0_3 := s0_2.ext x3
  have r0_3 := r0_0.ext X3
  go_wp2_with fail
  refine (i_RankPermutation _ xs0 _ x0x_3.rd (by omega)).mono ?_
  rintro e w4 ⟨rfl, x4⟩
  have z4 := x4.size
  have X4 : Ext w w4 := X3.trans x4
  have s0_4 := s0_3.ext x4
  have x0x_4 := x0x_3.ext x4
  have r0_4 := r0_0.ext X4
  go_wp2_with fail
  refine (l_toInt64S _ xs0 _ (by omega) r0_4).mono ?_
  rintro e w5 ⟨u_t0, rfl, t0_5, x5⟩
  have z5 := x5.size
  have X5 : Ext w w5 := X4.trans x5
  have s0_5 := s0_4.ext x5
  have x0x_5 := x0x_4.ext x5
  have r0_5 := r0_0.ext X5
  go_wp2_with fail
  refine (l_eqInt64S_t _ _ xs0 _ x0x_5.rd t0_5.rd).mono ?_
  rintro e w6 ⟨rfl, d6⟩
  have x6 := d6.ext
  have z6 := x6.size
  have X6 : Ext w w6 := X5.trans x6
  have s0_6 := s0_5.ext x6
  have x0x_6 := x0x_5.ext x6
  have t0_6 := t0_5.ext x6
  have r0_6 := r0_0.ext X6
  go_wp2
  go_ret
  exact ⟨rfl, X6⟩

end Go.Proofs.Ytloacmfafccofaa
