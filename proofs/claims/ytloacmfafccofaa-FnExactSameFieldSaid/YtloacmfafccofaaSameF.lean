/- SameField: the walks of the program and of the reference, and the law. No condition. -/
import Derived.Test.YtloacmfafccofaaFldLw
import Derived.Deep.RegionHeld3
namespace Go.Proofs.Ytloacmfafccofaa
open Go.RowKit

theorem i_equal (v v' : Value) (xs ys : List Int) (w : World) (h : Rd w v xs) (h' : Rd w v' ys) :
    Calls Try.prog 74 #[v, v'] w fun e w' => e = .returned (.bool (decide (xs = ys))) ∧ Drawn w w' := by
  obtain ⟨a, cap, rfl, hc, hm, hr⟩ := h
  obtain ⟨a', cap', rfl, hc', hm', hr'⟩ := h'
  by_cases hl : xs.length = ys.length
  · have hl' : ((xs.length : Int) != (ys.length : Int)) = false := by simp [hl]
    have HL := Lib.hid hl
    clear hl
    go_enter Try.func74, Try.ntmps74
    go_wp2
    go_loopw [13] (fun i wr => ∃ k : Nat, k ≤ xs.length ∧ i = .int .i64 k ∧ agree xs ys k ∧ Drawn w wr) (fun i _ => xs.length - (intOf i).toNat)
    case atStart => exact ⟨0, by omega, rfl, fun i hi => by omega, Drawn.refl _⟩
    case round =>
      obtain ⟨k, hk, rfl, hag, hd⟩ := hrel
      by_cases hlt : k < xs.length
      · have hlt' : k < ys.length := by have := HL.out; omega
        obtain ⟨b, o, rfl, hb, hcell⟩ := hr (by omega)
        obtain ⟨b', o', rfl, hb', hcell'⟩ := hr' (by omega)
        have hx := (hd.ext.cell (p := ⟨b, o + k, none⟩) hb).trans (hcell k hlt)
        have hy := (hd.ext.cell (p := ⟨b', o' + k, none⟩) hb').trans (hcell' k hlt')
        clear hcell hcell' hr hr'
        by_cases he : xs[k] = ys[k]
        · have G := Lib.hid (agree_next hag hlt hlt' he)
          have he' : (xs[k] != ys[k]) = false := by simp [he]
          generalize xs[k] = p at *
          generalize ys[k] = q at *
          clear he
          go_wp2
          go_quiet (fail)
          go_wp2
          exact ⟨⟨k + 1, by omega, by go_num, G.out, hd.drewN _⟩, by simp [intOf]; omega⟩
        · have G : Hid (¬ xs = ys) := Lib.hid (by rintro rfl; exact he rfl)
          have he' : (xs[k] != ys[k]) = true := by simpa using he
          generalize xs[k] = p at *
          generalize ys[k] = q at *
          clear he
          go_wp2
          go_quiet (fail)
          go_wp2
          go_ret
          exact ⟨ret_bool (by simp [G.out]), hd.drewN _⟩
      · obtain rfl : k = xs.length := by omega
        have G := Lib.hid (agree_end HL.out hag)
        go_wp2
        go_ret
        exact ⟨ret_bool (by simp [G.out]), hd⟩
  · have hl' : ((xs.length : Int) != (ys.length : Int)) = true := by rw [bne_iff_ne]; omega
    have G : Hid (¬ xs = ys) := Lib.hid (by rintro rfl; exact hl rfl)
    clear hl
    go_enter Try.func74, Try.ntmps74
    go_wp2
    go_ret
    exact ⟨ret_bool (by simp [G.out]), Drawn.refl _⟩
theorem s_equal (v v' : Value) (xs ys : List Int) (w : World) (h : Rd w v xs) (h' : Rd w v' ys) :
    Calls Try.prog 73 #[v, v'] w fun e w' => e = .returned (.bool (decide (xs = ys))) ∧ Drawn w w' := by
  obtain ⟨a, cap, rfl, hc, hm, hr⟩ := h
  obtain ⟨a', cap', rfl, hc', hm', hr'⟩ := h'
  by_cases hl : xs.length = ys.length
  · have hl' : ((xs.length : Int) != (ys.length : Int)) = false := by simp [hl]
    have HL := Lib.hid hl
    clear hl
    go_enter Try.func73, Try.ntmps73
    go_wp2
    go_loopw [5] (fun i wr => ∃ k : Nat, k ≤ xs.length ∧ i = .int .i64 k ∧ agree xs ys k ∧ Drawn w wr) (fun i _ => xs.length - (intOf i).toNat)
    case atStart => exact ⟨0, by omega, rfl, fun i hi => by omega, Drawn.refl _⟩
    case round =>
      obtain ⟨k, hk, rfl, hag, hd⟩ := hrel
      by_cases hlt : k < xs.length
      · have hlt' : k < ys.length := by have := HL.out; omega
        obtain ⟨b, o, rfl, hb, hcell⟩ := hr (by omega)
        obtain ⟨b', o', rfl, hb', hcell'⟩ := hr' (by omega)
        have hx := (hd.ext.cell (p := ⟨b, o + k, none⟩) hb).trans (hcell k hlt)
        have hy := (hd.ext.cell (p := ⟨b', o' + k, none⟩) hb').trans (hcell' k hlt')
        clear hcell hcell' hr hr'
        by_cases he : xs[k] = ys[k]
        · have G := Lib.hid (agree_next hag hlt hlt' he)
          have he' : (xs[k] != ys[k]) = false := by simp [he]
          generalize xs[k] = p at *
          generalize ys[k] = q at *
          clear he
          go_wp2
          go_quiet (fail)
          go_wp2
          exact ⟨⟨k + 1, by omega, by go_num, G.out, hd.drewN _⟩, by simp [intOf]; omega⟩
        · have G : Hid (¬ xs = ys) := Lib.hid (by rintro rfl; exact he rfl)
          have he' : (xs[k] != ys[k]) = true := by simpa using he
          generalize xs[k] = p at *
          generalize ys[k] = q at *
          clear he
          go_wp2
          go_quiet (fail)
          go_wp2
          go_ret
          exact ⟨ret_bool (by simp [G.out]), hd.drewN _⟩
      · obtain rfl : k = xs.length := by omega
        have G := Lib.hid (agree_end HL.out hag)
        go_wp2
        go_ret
        exact ⟨ret_bool (by simp [G.out]), hd⟩
  · have hl' : ((xs.length : Int) != (ys.length : Int)) = true := by rw [bne_iff_ne]; omega
    have G : Hid (¬ xs = ys) := Lib.hid (by rintro rfl; exact hl rfl)
    clear hl
    go_enter Try.func73, Try.ntmps73
    go_wp2
    go_ret
    exact ⟨ret_bool (by simp [G.out]), Drawn.refl _⟩
def sameB (P D : Int) (xs : List Int) (P' D' : Int) (ys : List Int) : Bool := P == P' && (D == D' && decide (xs = ys))
theorem i_SameField (P D : Int) (v : Value) (xs : List Int) (P' D' : Int) (v' : Value) (ys : List Int) (w : World) (h : Rd w v xs) (h' : Rd w v' ys) :
    Calls Try.prog 43 #[.agg #[.int .i64 P, .int .i64 D, v], .agg #[.int .i64 P', .int .i64 D', v']] w fun e w' => e = .returned (.bool (sameB P D xs P' D' ys)) ∧ Ext w w' := by
  have HRD := Lib.hid h
  have HRD' := Lib.hid h'
  have HE0 := Lib.hid ((ext_alloc w (.cells #[.int .i64 P, .int .i64 D, v] 47)).trans (ext_alloc _ (.cells #[.int .i64 P', .int .i64 D', v'] 47)))
  clear h h'
  by_cases hP : P = P'
  · have hPP : (P == P') = true := by simp [hP]
    by_cases hD : D = D'
    · have hDD : (D == D') = true := by simp [hD]
      have G : Hid (sameB P D xs P' D' ys = decide (xs = ys)) := Lib.hid (by simp [sameB, hPP, hDD])
      obtain ⟨E, HE⟩ : ∃ E, Hid (E = decide (xs = ys)) := ⟨_, Lib.hid rfl⟩
      rw [G.out, ← HE.out]
      clear hP hD
      go_enter Try.func43, Try.ntmps43
      go_wp2_with fail
      refine (i_equal _ _ xs ys _ (HRD.out.ext HE0.out) (HRD'.out.ext HE0.out)).mono ?_
      rintro e w2 ⟨rfl, hd⟩
      rw [← HE.out]
      go_wp2
      go_ret
      exact ⟨rfl, HE0.out.drawn hd⟩
    · have hDD : (D == D') = false := by simp [hD]
      have G : Hid (sameB P D xs P' D' ys = false) := Lib.hid (by simp [sameB, hDD])
      clear hP hD
      go_enter Try.func43, Try.ntmps43
      go_wp2
      go_ret
      exact ⟨ret_bool G.out.symm, HE0.out⟩
  · have hPP : (P == P') = false := by simp [hP]
    have G : Hid (sameB P D xs P' D' ys = false) := Lib.hid (by simp [sameB, hPP])
    clear hP
    go_enter Try.func43, Try.ntmps43
    go_wp2
    go_ret
    exact ⟨ret_bool G.out.symm, HE0.out⟩
theorem s_SameField (P D : Int) (v : Value) (xs : List Int) (P' D' : Int) (v' : Value) (ys : List Int) (w : World) (h : Rd w v xs) (h' : Rd w v' ys) :
    Calls Try.prog 41 #[.agg #[.int .i64 P, .int .i64 D, v], .agg #[.int .i64 P', .int .i64 D', v']] w fun e w' => e = .returned (.bool (sameB P D xs P' D' ys)) ∧ Ext w w' := by
  have HRD := Lib.hid h
  have HRD' := Lib.hid h'
  have HE0 := Lib.hid ((ext_alloc w (.cells #[.int .i64 P, .int .i64 D, v] 47)).trans (ext_alloc _ (.cells #[.int .i64 P', .int .i64 D', v'] 47)))
  clear h h'
  by_cases hP : P = P'
  · have hPP : (P == P') = true := by simp [hP]
    by_cases hD : D = D'
    · have hDD : (D == D') = true := by simp [hD]
      have G : Hid (sameB P D xs P' D' ys = decide (xs = ys)) := Lib.hid (by simp [sameB, hPP, hDD])
      obtain ⟨E, HE⟩ : ∃ E, Hid (E = decide (xs = ys)) := ⟨_, Lib.hid rfl⟩
      rw [G.out, ← HE.out]
      clear hP hD
      go_enter Try.func41, Try.ntmps41
      go_wp2_with fail
      refine (s_equal _ _ xs ys _ (HRD.out.ext HE0.out) (HRD'.out.ext HE0.out)).mono ?_
      rintro e w2 ⟨rfl, hd⟩
      rw [← HE.out]
      go_wp2
      go_ret
      exact ⟨rfl, HE0.out.drawn hd⟩
    · have hDD : (D == D') = false := by simp [hD]
      have G : Hid (sameB P D xs P' D' ys = false) := Lib.hid (by simp [sameB, hDD])
      clear hP hD
      go_enter Try.func41, Try.ntmps41
      go_wp2
      go_ret
      exact ⟨ret_bool G.out.symm, HE0.out⟩
  · have hPP : (P == P') = false := by simp [hP]
    have G : Hid (sameB P D xs P' D' ys = false) := Lib.hid (by simp [sameB, hPP])
    clear hP
    go_enter Try.func41, Try.ntmps41
    go_wp2
    go_ret
    exact ⟨ret_bool G.out.symm, HE0.out⟩
theorem slice_form {e : TypeId} {w : World} {lo : Nat} {v : Value} {ys : List Value} (h : OwnV e w lo v ys) : ∃ A n c, v = .slice A n c := by
  obtain ⟨A, c, h, _⟩ := h.form
  exact ⟨A, _, c, h⟩
set_option maxRecDepth 100000 in
set_option maxHeartbeats 1000000 in
theorem l_SameField (w : World) (P D : Int) (v : Value) (xs : List Int) (h : Rd w v xs ∧ D ≤ 9223372036854775807) (P' D' : Int) (v' : Value) (ys : List Int) (h' : Rd w v' ys ∧ D' ≤ 9223372036854775807) :
    Calls Try.prog 12 #[.agg #[.int .i64 P, .int .i64 D, v], .agg #[.int .i64 P', .int .i64 D', v']] w fun e w' => e = .returned (.bool true) ∧ Ext w w' := by
  have HRD := Lib.hid h.1
  have HRD' := Lib.hid h'.1
  have HF0 := Lib.hid ((FldAt.new w P D v 44).ext (ext_alloc _ (.cells #[.int .i64 P', .int .i64 D', v'] 44)))
  have HG0 := Lib.hid (FldAt.new (w.alloc (.cells #[.int .i64 P, .int .i64 D, v] 44)) P' D' v' 44)
  have HE0 := Lib.hid ((ext_alloc w (.cells #[.int .i64 P, .int .i64 D, v] 44)).trans (ext_alloc _ (.cells #[.int .i64 P', .int .i64 D', v'] 44)))
  obtain ⟨R, HR⟩ : ∃ R : Bool, Hid (sameB P D xs P' D' ys = R) := ⟨_, Lib.hid rfl⟩
  have hRR : (R != R) = false := by simp
  clear h h'
  go_enter Try.func12, Try.ntmps12
  go_wp2_with fail
  refine (l_szField P D v xs 1048576 _ (HRD.out.ext HE0.out) (by omega) (by omega)).mono ?_
  rintro e w1 ⟨rfl, x1⟩
  have HE1 := Lib.hid (HE0.out.trans x1)
  have HF1 := Lib.hid (HF0.out.ext x1)
  have HG1 := Lib.hid (HG0.out.ext x1)
  simp only [World.size_alloc] at HG1
  clear x1 HF0 HG0
  obtain ⟨_, c0, c1, c2⟩ := HF1.out
  obtain ⟨_, d0, d1, d2⟩ := HG1.out
  by_cases hn : (xs.length : Int) ≤ 1048576
  · rw [if_pos hn]
    obtain ⟨M, HM⟩ : ∃ M : Int, Hid (M = 1048576 - (xs.length : Int)) := ⟨_, Lib.hid rfl⟩
    have hM0 : 0 ≤ M := by rw [HM.out]; omega
    have hM1 : M ≤ 1048576 := by rw [HM.out]; omega
    have HN1 : Hid (xs.length ≤ 1048576) := Lib.hid (by omega)
    rw [← HM.out]
    clear hn
    go_wp2_with fail
    refine (l_szField P' D' v' ys M _ (HRD'.out.ext HE1.out) hM0 hM1).mono ?_
    rintro e w2 ⟨rfl, x2⟩
    have HE2 := Lib.hid (HE1.out.trans x2)
    have HF2 := Lib.hid (HF1.out.ext x2)
    have HG2 := Lib.hid (HG1.out.ext x2)
    clear x2 c0 c1 c2 d0 d1 d2 HF1 HG1
    obtain ⟨_, c0, c1, c2⟩ := HF2.out
    obtain ⟨_, d0, d1, d2⟩ := HG2.out
    by_cases hn2 : (ys.length : Int) ≤ M
    · rw [if_pos hn2]
      have HN2 : Hid (ys.length ≤ 1048576) := Lib.hid (by omega)
      obtain ⟨T, HT⟩ : ∃ T : Int, Hid (T = M - (ys.length : Int)) := ⟨_, Lib.hid rfl⟩
      have hT0 : 0 ≤ T := by rw [HT.out]; omega
      rw [← HT.out]
      clear hn2
      go_wp2
      go_region_held3 (fun w' => Ext w2 w' ∧ w'.cell? ⟨w.heap.size, 0, none⟩ = some (.int .i64 P) ∧ w'.cell? ⟨w.heap.size, 1, none⟩ = some (.int .i64 D) ∧ w'.cell? ⟨w.heap.size, 2, none⟩ = some v ∧ w'.cell? ⟨w.heap.size + 1, 0, none⟩ = some (.int .i64 P') ∧ w'.cell? ⟨w.heap.size + 1, 1, none⟩ = some (.int .i64 D') ∧ w'.cell? ⟨w.heap.size + 1, 2, none⟩ = some v') (first | exact ⟨x8, (HF2.out.ext x8).2.1, (HF2.out.ext x8).2.2.1, (HF2.out.ext x8).2.2.2, (HG2.out.ext x8).2.1, (HG2.out.ext x8).2.2.1, (HG2.out.ext x8).2.2.2⟩ | exact ⟨x7, (HF2.out.ext x7).2.1, (HF2.out.ext x7).2.2.1, (HF2.out.ext x7).2.2.2, (HG2.out.ext x7).2.1, (HG2.out.ext x7).2.2.1, (HG2.out.ext x7).2.2.2⟩ | exact ⟨x6, (HF2.out.ext x6).2.1, (HF2.out.ext x6).2.2.1, (HF2.out.ext x6).2.2.2, (HG2.out.ext x6).2.1, (HG2.out.ext x6).2.2.1, (HG2.out.ext x6).2.2.2⟩ | exact ⟨Ext.drewN (Ext.refl _) 1, c0, c1, c2, d0, d1, d2⟩)
        (first | (go_at_call 42; have _q := x6; refine (l_toField P' D' v' ys _ HN2.out (HRD'.out.ext (HE2.out.trans x6))).mono ?_; rintro e w7 ⟨v7, rfl, o7, y7⟩; have x7 := Ext.trans x6 y7) | (go_at_call 42; refine (l_toField P D v xs _ HN1.out (HRD.out.ext (HE2.out.drewN 1))).mono ?_; rintro e w6 ⟨v6, rfl, o6, y6⟩; have x6 := Ext.trans (Ext.drewN (Ext.refl w2) 1) y6) | (go_at_call 41; refine (s_SameField P D _ xs P' D' _ ys _ (o6.rd.ext y7) o7.rd).mono ?_; rintro e w8 ⟨rfl, y8⟩; have x8 := Ext.trans x7 y8))
      have HE8 := Lib.hid (HE2.out.trans x8)
      have HF8 := Lib.hid (HF2.out.ext x8)
      have HG8 := Lib.hid (HG2.out.ext x8)
      rw [HR.out]
      clear x8 y8 x7 y7 o7 x6 y6 o6 c0 c1 c2 d0 d1 d2 HF2 HG2 HE2
      obtain ⟨_, c0, c1, c2⟩ := HF8.out
      obtain ⟨_, d0, d1, d2⟩ := HG8.out
      go_wp2_with fail
      refine (l_toField P D v xs _ HN1.out (HRD.out.ext HE8.out)).mono ?_
      rintro e w9 ⟨v9, rfl, o9, y9⟩
      obtain ⟨A9, n9, k9, hv9⟩ := slice_form o9
      subst hv9
      have HE9 := Lib.hid ((HE8.out.trans y9).trans (ext_alloc w9 (.cells #[.int .i64 P, .int .i64 D, .slice A9 n9 k9] 47)))
      have HF9 := Lib.hid ((HF8.out.ext y9).ext (ext_alloc w9 (.cells #[.int .i64 P, .int .i64 D, .slice A9 n9 k9] 47)))
      have HG9 := Lib.hid ((HG8.out.ext y9).ext (ext_alloc w9 (.cells #[.int .i64 P, .int .i64 D, .slice A9 n9 k9] 47)))
      have HI9 := Lib.hid (FldAt.new w9 P D (.slice A9 n9 k9) 47)
      have HO9 := Lib.hid (o9.rd.ext (ext_alloc w9 (.cells #[.int .i64 P, .int .i64 D, .slice A9 n9 k9] 47)))
      have h19 : w.heap.size < w9.heap.size := (HF8.out.ext y9).1
      have h29 : w.heap.size + 1 < w9.heap.size := (HG8.out.ext y9).1
      clear c0 c1 c2 d0 d1 d2
      obtain ⟨_, c0, c1, c2⟩ := HF8.out.ext y9
      obtain ⟨_, d0, d1, d2⟩ := HG8.out.ext y9
      clear y9 o9
      go_wp2_with fail
      refine (l_toField P' D' v' ys _ HN2.out (HRD'.out.ext HE9.out)).mono ?_
      rintro e w10 ⟨v10, rfl, o10, y10⟩
      obtain ⟨A10, n10, k10, hv10⟩ := slice_form o10
      subst hv10
      have HA10 := Lib.hid (ext_alloc w10 (.cells #[.int .i64 P', .int .i64 D', .slice A10 n10 k10] 47))
      have HE10 := Lib.hid ((HE9.out.trans y10).trans HA10.out)
      have HF10 := Lib.hid ((HF9.out.ext y10).ext HA10.out)
      have HG10 := Lib.hid ((HG9.out.ext y10).ext HA10.out)
      have HI10 := Lib.hid ((HI9.out.ext y10).ext HA10.out)
      have HJ10 := Lib.hid (FldAt.new w10 P' D' (.slice A10 n10 k10) 47)
      have HO10 := Lib.hid ((HO9.out.ext y10).ext HA10.out)
      have HP10 := Lib.hid (o10.rd.ext HA10.out)
      have h910 : w9.heap.size < w10.heap.size := (HI9.out.ext y10).1
      clear c0 c1 c2 d0 d1 d2
      obtain ⟨_, c0, c1, c2⟩ := HI9.out.ext y10
      clear y10 o10 HF9 HG9 HI9 HO9 HE9 HF8 HG8 HE8
      go_wp2_with fail
      refine (i_SameField P D _ xs P' D' _ ys _ HO10.out HP10.out).mono ?_
      rintro e w11 ⟨rfl, x11⟩
      rw [HR.out]
      have HE11 := Lib.hid (HE10.out.trans x11)
      have HF11 := Lib.hid (HF10.out.ext x11)
      have HG11 := Lib.hid (HG10.out.ext x11)
      have HI11 := Lib.hid (HI10.out.ext x11)
      have HJ11 := Lib.hid (HJ10.out.ext x11)
      have HRR1 := Lib.hid (HO10.out.ext x11)
      have HP11 := Lib.hid (HP10.out.ext x11)
      clear x11 c0 c1 c2 HF10 HG10 HI10 HJ10 HO10 HP10 HE10 HA10 h19 h29 h910
      obtain ⟨_, c0, c1, c2⟩ := HI11.out
      obtain ⟨_, d0, d1, d2⟩ := HF11.out
      go_wp2
      go_region_held3 (fun w' => Ext w11 w' ∧ w'.cell? ⟨w9.heap.size, 0, none⟩ = some (.int .i64 P) ∧ w'.cell? ⟨w9.heap.size, 1, none⟩ = some (.int .i64 D) ∧ w'.cell? ⟨w9.heap.size, 2, none⟩ = some (.slice A9 n9 k9) ∧ w'.cell? ⟨w.heap.size, 0, none⟩ = some (.int .i64 P) ∧ w'.cell? ⟨w.heap.size, 1, none⟩ = some (.int .i64 D) ∧ w'.cell? ⟨w.heap.size, 2, none⟩ = some v) (first | exact ⟨x17, (HI11.out.ext x17).2.1, (HI11.out.ext x17).2.2.1, (HI11.out.ext x17).2.2.2, (HF11.out.ext x17).2.1, (HF11.out.ext x17).2.2.1, (HF11.out.ext x17).2.2.2⟩ | exact ⟨x16, (HI11.out.ext x16).2.1, (HI11.out.ext x16).2.2.1, (HI11.out.ext x16).2.2.2, (HF11.out.ext x16).2.1, (HF11.out.ext x16).2.2.1, (HF11.out.ext x16).2.2.2⟩ | exact ⟨Ext.drewN (Ext.refl _) 1, c0, c1, c2, d0, d1, d2⟩)
        (first | (go_at_call 42; refine (l_toField P D v xs _ HN1.out (HRD.out.ext (HE11.out.drewN 1))).mono ?_; rintro e z16 ⟨u16, rfl, o16, y16⟩; have x16 := Ext.trans (Ext.drewN (Ext.refl w11) 1) y16) | (go_at_call 44; refine (l_eqField_t P D _ _ xs _ (HRR1.out.ext x16) o16.rd).mono ?_; rintro e z17 ⟨rfl, y17⟩; have x17 := Ext.trans x16 y17))
      clear c0 c1 c2 d0 d1 d2
      have HE12 := Lib.hid (HE11.out.trans x17)
      have HG12 := Lib.hid (HG11.out.ext x17)
      have HJ12 := Lib.hid (HJ11.out.ext x17)
      have HRR2 := Lib.hid (HP11.out.ext x17)
      clear x17 y17 x16 y16 o16
      obtain ⟨_, c0, c1, c2⟩ := HJ12.out
      obtain ⟨_, d0, d1, d2⟩ := HG12.out
      go_wp2
      go_region_held3 (fun w' => Ext z17 w' ∧ w'.cell? ⟨w10.heap.size, 0, none⟩ = some (.int .i64 P') ∧ w'.cell? ⟨w10.heap.size, 1, none⟩ = some (.int .i64 D') ∧ w'.cell? ⟨w10.heap.size, 2, none⟩ = some (.slice A10 n10 k10) ∧ w'.cell? ⟨w.heap.size + 1, 0, none⟩ = some (.int .i64 P') ∧ w'.cell? ⟨w.heap.size + 1, 1, none⟩ = some (.int .i64 D') ∧ w'.cell? ⟨w.heap.size + 1, 2, none⟩ = some v') (first | exact ⟨x27, (HJ12.out.ext x27).2.1, (HJ12.out.ext x27).2.2.1, (HJ12.out.ext x27).2.2.2, (HG12.out.ext x27).2.1, (HG12.out.ext x27).2.2.1, (HG12.out.ext x27).2.2.2⟩ | exact ⟨x26, (HJ12.out.ext x26).2.1, (HJ12.out.ext x26).2.2.1, (HJ12.out.ext x26).2.2.2, (HG12.out.ext x26).2.1, (HG12.out.ext x26).2.2.1, (HG12.out.ext x26).2.2.2⟩ | exact ⟨Ext.drewN (Ext.refl _) 1, c0, c1, c2, d0, d1, d2⟩)
        (first | (go_at_call 42; refine (l_toField P' D' v' ys _ HN2.out (HRD'.out.ext (HE12.out.drewN 1))).mono ?_; rintro e z26 ⟨u26, rfl, o26, y26⟩; have x26 := Ext.trans (Ext.drewN (Ext.refl z17) 1) y26) | (go_at_call 44; refine (l_eqField_t P' D' _ _ ys _ (HRR2.out.ext x26) o26.rd).mono ?_; rintro e z27 ⟨rfl, y27⟩; have x27 := Ext.trans x26 y27))
      clear c0 c1 c2 d0 d1 d2
      go_wp2
      go_ret
      exact ⟨rfl, HE12.out.trans x27⟩
    · rw [if_neg hn2]
      go_wp2
      go_ret
      exact ⟨rfl, HE2.out⟩
  · rw [if_neg hn]
    clear hn
    go_wp2
    go_ret
    exact ⟨rfl, HE1.out⟩
end Go.Proofs.Ytloacmfafccofaa
