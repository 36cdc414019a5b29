/- PermutationOfCycles: the walk of the reference. No condition. -/
import Derived.Test.YtloacmfafccofaaPocI
import Derived.Test.YtloacmfafccofaaToSS
namespace Go.Proofs.Ytloacmfafccofaa
open Go.RowKit

set_option maxRecDepth 100000 in
set_option maxHeartbeats 2000000 in
theorem s_PermutationOfCycles (n : Int) (v : Value) (css : List (List Int)) (w : World) (h : RdL w v css) (hs : css.length + sumLen css ≤ 1048576) :
    Calls Try.prog 37 #[.int .i64 n, v] w (RetIntsI w (pocOut n css) (pocCode n css)) := by
  cases hb : inB n 0 32
  · have G : Hid (pocOut n css = [] ∧ pocCode n css = 2) := Lib.hid (poc_none (R := none) (by simp [pocO, hb]) rfl)
    clear h hs
    go_enter Try.func37, Try.ntmps37
    go_wp2_with (go_at_call 58; refine (s_in _ _ _ _).mono ?_; rintro e w' ⟨rfl, rfl⟩)
    go_ret2
    exact ⟨_, by rw [G.out.2]; rfl, by rw [G.out.1]; exact OwnV.nil _ _ _, Ext.refl _⟩
  obtain ⟨h1, h2⟩ := inB_iff.1 hb
  obtain ⟨N, rfl⟩ := Int.eq_ofNat_of_zero_le h1
  obtain ⟨R, HR⟩ : ∃ R, Hid (R = poc (N : Int) css [] (iota 0 N)) := ⟨_, Lib.hid rfl⟩
  have HRO : Hid (R = pocO N css) := Lib.hid (by rw [HR.out, pocO, hb, if_pos rfl, Int.toNat_natCast])
  obtain ⟨a, cap, rfl, hc, hm, hr⟩ := h
  have HC := Lib.hid hr
  obtain ⟨L, HL⟩ : ∃ L, Hid (L = css.length) := ⟨_, Lib.hid rfl⟩
  rw [← HL.out] at hc hs ⊢
  have HSM : Hid (sumLen css ≤ 1048576) := Lib.hid (by omega)
  have hL : L ≤ 1048576 := by omega
  clear hr hs
  go_enter Try.func37, Try.ntmps37
  go_wp2_with (first | (go_at_call 58; refine (s_in _ _ _ _).mono ?_; rintro e w' ⟨rfl, rfl⟩) | (go_at_call 61; refine (s_l04One (N : Int) _ (by omega)).mono ?_; rintro e w1 ⟨v1, rfl, hown, hext⟩; rw [Int.toNat_natCast] at hown; have HOW := Lib.hid hown; have HEX := Lib.hid hext; clear hown hext))
  obtain ⟨B, HBB⟩ : ∃ B, Hid (B = w1.heap.size) := ⟨_, Lib.hid rfl⟩
  have HS0 : Hid (Own (w1.alloc (.cells #[] 2)) B (.slice (some ⟨w1.heap.size, 0, none⟩) 0 0) []) := Lib.hid (by rw [HBB.out]; exact OwnV.empty 2 w1)
  have HE0 := Lib.hid (HEX.out.trans (ext_alloc w1 (.cells #[] 2)))
  have hBw : w.heap.size ≤ B := by rw [HBB.out]; exact HEX.out.size
  have HBS : Hid (B ≤ (w1.alloc (.cells #[] 2)).heap.size) := Lib.hid (by rw [HBB.out]; simp)
  obtain ⟨A, pcap, hv1, hpc, hpm, hcg, _⟩ := HOW.out.form
  rw [List.length_map, iota_len] at hv1 hpc
  have HP0 := Lib.hid (HOW.out.ext (ext_alloc w1 (.cells #[] 2)))
  subst hv1
  unfold maxLen at hpm
  have HCG : Hid (0 < N → ∃ g, A = some ⟨g, 0, none⟩ ∧ g < B) := Lib.hid (fun h => by obtain ⟨g, h1, h2, h3⟩ := hcg (by omega); exact ⟨g, h1, by rw [HBB.out]; exact h3⟩)
  have HM0 : Hid (pocMid (N : Int) N css R 0 [] (iota 0 N)) := Lib.hid (by rw [HR.out]; exact pocMid_start (iota_len _ _))
  clear hcg
  go_wp2
  go_loopw [7, 8] (fun sv i wr => ∃ (k : Nat) (s p : List Int), k ≤ L ∧ i = .int .i64 k ∧ Hid (pocMid (N : Int) N css R k s p) ∧ Hid (Own wr B sv s) ∧ Hid (Own wr w.heap.size (.slice A N pcap) p) ∧ Hid (Ext w wr) ∧ Hid (B ≤ wr.heap.size)) (fun _ i _ => L - (intOf i).toNat)
  case atStart => exact ⟨0, [], iota 0 N, by omega, rfl, HM0, HS0, HP0, HE0, HBS⟩
  case round =>
    obtain ⟨k, s, p, hk, rfl, hmid, hos, hop, hext, hbs⟩ := hrel
    by_cases hlt : k < L
    · have hk' : k < css.length := by rw [← HL.out]; exact hlt
      obtain ⟨g, o, rfl, hg, hall⟩ := HC.out (by omega)
      obtain ⟨ab, M, ac, hcell0, hrd⟩ := hall k hk'
      have hcell := (hext.out.cell (p := ⟨g, o + k, none⟩) hg).trans hcell0
      obtain ⟨c, HCC⟩ : ∃ c, Hid (c = css[k]) := ⟨_, Lib.hid rfl⟩
      have HSL : Hid (c.length ≤ 1048576) := Lib.hid (by rw [HCC.out]; exact Nat.le_trans (by have h1 := sumLen_take hk'; have h2 := sumLen_take_le css (k + 1); omega) HSM.out)
      have HSS : Hid (s.length ≤ 1048576) := Lib.hid (by rw [hmid.out.2.2]; exact Nat.le_trans (sumLen_take_le css k) HSM.out)
      rw [← HCC.out] at hrd
      obtain ⟨ab', ac', he, hac, ham, hcc⟩ := hrd
      cases he
      have HCL := Lib.hid hcc
      clear hall hcell0 hcc
      by_cases h0 : c.length = 0
      · have HE : Hid (R = none) := Lib.hid (pocMid_empty hmid.out hk' (by rw [← HCC.out]; exact h0))
        have G := Lib.hid (poc_none HRO.out HE.out)
        clear hmid
        rw [h0] at hcell
        go_wp2
        go_ret2
        exact ⟨_, by rw [G.out.2]; rfl, by rw [G.out.1]; exact OwnV.nil _ _ _, hext.out⟩
      · have hne : ((c.length : Int) == 0) = false := beq_eq_false_iff_ne.2 (by omega)
        have HN0 := Lib.hid h0
        obtain ⟨m, HMM⟩ : ∃ m, Hid (m = c.length) := ⟨_, Lib.hid rfl⟩
        have hm1 : m ≤ 1048576 := by rw [HMM.out]; exact HSL.out
        have hm0 : 0 < m := by rw [HMM.out]; omega
        rw [← HMM.out] at hcell hac hne
        clear h0
        go_wp2
        go_loopw [7, 10] (fun sv i wr => ∃ (j : Nat), j ≤ m ∧ i = .int .i64 j ∧ Hid (scMid (N : Int) s c j) ∧ Hid (Own wr B sv (s ++ c.take j)) ∧ Hid (Own wr w.heap.size (.slice A N pcap) p) ∧ Hid (Ext w wr) ∧ Hid (B ≤ wr.heap.size)) (fun _ i _ => m - (intOf i).toNat)
        case atStart => exact ⟨0, by omega, rfl, Lib.hid (scMid_start _ _ _), Lib.hid (by simpa using hos.out), hop, hext, hbs⟩
        case round =>
          clear hos hop hext hbs hcell
          obtain ⟨j, hj, rfl, hsc, hos, hop, hext, hbs⟩ := hrel
          by_cases hlt2 : j < m
          · have hj' : j < c.length := by rw [← HMM.out]; exact hlt2
            obtain ⟨cb, co, rfl, hcb, hcells⟩ := HCL.out (by omega)
            have hx := (hext.out.cell (p := ⟨cb, co + j, none⟩) hcb).trans (hcells j hj')
            obtain ⟨z, HZ⟩ : ∃ z, Hid (z = c[j]) := ⟨_, Lib.hid rfl⟩
            rw [← HZ.out] at hx
            clear hcells
            cases hin : inB z 0 ((N : Int) - 1)
            · have HE : Hid (R = none) := Lib.hid (pocMid_bad hmid.out hk' (by rw [← HCC.out]; exact scMid_out hsc.out hj' (by rw [← HZ.out]; exact hin)))
              have G := Lib.hid (poc_none HRO.out HE.out)
              clear hmid hsc
              go_wp2_with (go_at_call 58; refine (s_in _ _ _ _).mono ?_; rintro e w' ⟨rfl, rfl⟩)
              go_ret2
              exact ⟨_, by rw [G.out.2]; rfl, by rw [G.out.1]; exact OwnV.nil _ _ _, hext.out⟩
            · obtain ⟨z1, z2⟩ := inB_iff.1 hin
              obtain ⟨gp, rfl, hgp⟩ := HCG.out (by omega)
              cases hsn : hasB (s ++ c.take j) z
              · have hSL : (s ++ c.take j).length ≤ 1000000000 := by rw [List.length_append, List.length_take]; have := HSS.out; omega
                have HGP := Lib.hid hgp
                have HT : Hid (s ++ c.take (j + 1) = s ++ c.take j ++ [z]) := Lib.hid (by rw [List.take_succ_eq_append_getElem hj', ← HZ.out, List.append_assoc])
                have HSC := Lib.hid (scMid_next hsc.out hj' (by rw [← HZ.out]; exact hin) (by rw [← HZ.out]; exact hsn))
                clear hsc hgp
                go_wp2_with (first | (go_at_call 58; refine (s_in _ _ _ _).mono ?_; rintro e w' ⟨rfl, rfl⟩) | (go_at_call 72; refine (s_l00Has' _ (s ++ c.take j) z _ hos.out.rd).mono ?_; rintro e w' ⟨rfl, rfl⟩) | (at_builtin; refine wp_app1 _ rfl _ _ rfl _ _ (s ++ c.take j) rfl hos.out z rfl (by omega) hbs.out ?_; intro v' w' hos2 hgr))
                have HO2 : Hid (Own w' B v' (s ++ c.take (j + 1))) := Lib.hid (by rw [HT.out]; exact hos2)
                have HP2 : Hid (Own w' w.heap.size (.slice (some ⟨gp, 0, none⟩) N pcap) p) := Lib.hid (hop.out.kept hgr (.inr (by
                  intro e
                  have h1 := (hos.out.lt gp e.symm).1
                  have h2 := HGP.out
                  omega)))
                have HE2 : Hid (Ext w w') := Lib.hid (Below.grown hext.out hgr hext.out.size (fun q hq => Nat.le_trans hBw (hos.out.lt q hq).1))
                have HB2 : Hid (B ≤ w'.heap.size) := Lib.hid (Nat.le_trans hbs.out hgr.size)
                clear hos2 hgr hos hop hext hbs
                go_wp2
                exact ⟨⟨j + 1, by omega, by go_num, HSC, HO2, HP2, HE2, HB2⟩, by simp only [intOf]; omega⟩
              · have HE : Hid (R = none) := Lib.hid (pocMid_bad hmid.out hk' (by rw [← HCC.out]; exact scMid_twice hsc.out hj' (by rw [← HZ.out]; exact hsn)))
                have G := Lib.hid (poc_none HRO.out HE.out)
                clear hmid hsc
                go_wp2_with (first | (go_at_call 58; refine (s_in _ _ _ _).mono ?_; rintro e w' ⟨rfl, rfl⟩) | (go_at_call 72; refine (s_l00Has' _ (s ++ c.take j) z _ hos.out.rd).mono ?_; rintro e w' ⟨rfl, rfl⟩))
                go_ret2
                exact ⟨_, by rw [G.out.2]; rfl, by rw [G.out.1]; exact OwnV.nil _ _ _, hext.out⟩
          · obtain rfl : j = m := by omega
            have hok : okP (N : Int) s c = true := scMid_end (by rw [← HMM.out]; exact hsc.out)
            have HIN := Lib.hid (okP_in hok)
            have HNX : Hid (pocMid (N : Int) N css R (k + 1) (s ++ c) (rotTo c c.length p)) := Lib.hid (by
              have := pocMid_next hmid.out hk' (by rw [← HCC.out]; exact HN0.out) (by rw [← HCC.out]; exact hok)
              rw [← HCC.out] at this; exact this)
            have HPL : Hid (p.length = N) := Lib.hid hmid.out.2.1
            obtain ⟨sa, sn, sc, hsv⟩ := slice_form2 hos.out
            subst hsv
            have HOS : Hid (Own wr B (.slice sa sn sc) (s ++ c)) := Lib.hid (by have := hos.out; rw [HMM.out, List.take_length] at this; exact this)
            clear hmid hsc hok hos
            go_wp2
            go_loopw [11] (fun i wr => ∃ (t : Nat) (q : List Int), t ≤ j ∧ i = .int .i64 t ∧ Hid (q = rotTo c t p) ∧ Hid (Own wr B (.slice sa sn sc) (s ++ c)) ∧ Hid (Own wr w.heap.size (.slice A N pcap) q) ∧ Hid (Ext w wr) ∧ Hid (B ≤ wr.heap.size)) (fun i _ => j - (intOf i).toNat)
            case atStart => exact ⟨0, p, by omega, rfl, Lib.hid rfl, HOS, hop, hext, hbs⟩
            case round =>
              clear hop hext hbs HOS
              obtain ⟨t, q, ht, rfl, hq, hos, hop, hext, hbs⟩ := hrel
              by_cases hlt3 : t < j
              · have ht' : t < c.length := by rw [← HMM.out]; exact hlt3
                obtain ⟨cb, co, rfl, hcb, hcells⟩ := HCL.out (by omega)
                have hx := (hext.out.cell (p := ⟨cb, co + t, none⟩) hcb).trans (hcells t ht')
                obtain ⟨u, HU⟩ : ∃ u, Hid (u = (t + 1) % j) := ⟨_, Lib.hid rfl⟩
                have hu : u < j := by rw [HU.out]; exact Nat.mod_lt _ (by omega)
                have hu' : u < c.length := by rw [← HMM.out]; exact hu
                have hy := (hext.out.cell (p := ⟨cb, co + u, none⟩) hcb).trans (hcells u hu')
                have hmod : ((t : Int) + 1) % (j : Int) = (u : Int) := by rw [HU.out]; rfl
                obtain ⟨z1, z2⟩ := inB_iff.1 (HIN.out c[t] (List.getElem_mem ht'))
                obtain ⟨x, HXE⟩ : ∃ x : Nat, Hid (c[t] = (x : Int)) := ⟨c[t].toNat, Lib.hid (by omega)⟩
                obtain ⟨y, HYE⟩ : ∃ y, Hid (c[u] = y) := ⟨_, Lib.hid rfl⟩
                rw [HXE.out] at hx z1 z2
                rw [HYE.out] at hy
                have hxN : x < N := by omega
                have hql : x < q.length := by rw [hq.out, rotTo_len, HPL.out]; exact hxN
                obtain ⟨gp, rfl, hgp⟩ := HCG.out (by omega)
                have hcp := hop.out.cell x (by rw [List.length_map]; exact hql)
                have hfp := hop.out.frozen x
                obtain ⟨hs1, hs2⟩ := hop.out.stored x (.int .i64 y)
                have HQ : Hid (q.set x y = rotTo c (t + 1) p) := Lib.hid (by
                  rw [rotTo, ← hq.out, List.getD_eq_getElem?_getD, List.getD_eq_getElem?_getD, List.getElem?_eq_getElem ht', ← HMM.out, ← HU.out, List.getElem?_eq_getElem hu']
                  simp only [Option.getD_some]
                  rw [HXE.out, HYE.out, Int.toNat_natCast])
                have HPS : Hid (Own (wr.setCell ⟨gp, x, none⟩ (.int .i64 y)) w.heap.size (.slice (some ⟨gp, 0, none⟩) N pcap) (q.set x y)) := Lib.hid (by
                  unfold Own; rw [List.map_set]; exact hs1)
                have HSS2 : Hid (Own (wr.setCell ⟨gp, x, none⟩ (.int .i64 y)) B (.slice sa sn sc) (s ++ c)) := Lib.hid (hos.out.kept hs2 (by
                  cases hv : Value.ownBlock (.slice sa sn sc) with
                  | none => exact .inl rfl
                  | some b => right; intro e; injection e with e; have := (hos.out.lt b hv).1; omega))
                have HES : Hid (Ext w (wr.setCell ⟨gp, x, none⟩ (.int .i64 y))) := Lib.hid (ext_app (e := 2) (v := .slice (some ⟨gp, 0, none⟩) N pcap) hext.out hop.out hs2)
                have HBS2 : Hid (B ≤ (wr.setCell ⟨gp, x, none⟩ (.int .i64 y)).heap.size) := Lib.hid (Nat.le_trans hbs.out hs2.size)
                generalize (q.map (Value.int .i64))[x]'(by rw [List.length_map]; exact hql) = old at hcp
                clear hs1 hs2 hos hop hext hq hcells hbs hgp
                go_wp2
                go_region
                go_wp2
                exact ⟨⟨t + 1, _, by omega, by go_num, HQ, Lib.hid (OwnV.drawn HSS2.out ⟨1, rfl⟩), Lib.hid (OwnV.drawn HPS.out ⟨1, rfl⟩), Lib.hid (Ext.drawn HES.out ⟨1, rfl⟩), Lib.hid (Nat.le_trans HBS2.out (Nat.le_refl _))⟩, by simp only [intOf]; omega⟩
              · obtain rfl : t = j := by omega
                have HQ : Hid (pocMid (N : Int) N css R (k + 1) (s ++ c) q) := Lib.hid (by rw [hq.out, HMM.out]; exact HNX.out)
                clear hq
                go_wp2
                exact ⟨⟨k + 1, _, q, by omega, by go_num, HQ, hos, hop, hext, hbs⟩, by simp only [intOf]; omega⟩
    · obtain rfl : k = L := by omega
      have HE : Hid (R = some p) := Lib.hid (pocMid_end (by have := hmid.out; rw [HL.out] at this; exact this))
      have G := Lib.hid (poc_some HRO.out HE.out)
      clear hmid
      go_wp2
      go_ret2
      exact ⟨_, by rw [G.out.2]; rfl, by rw [G.out.1]; exact hop.out, hext.out⟩
end Go.Proofs.Ytloacmfafccofaa
