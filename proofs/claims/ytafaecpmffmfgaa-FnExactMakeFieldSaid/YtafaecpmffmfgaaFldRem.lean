/- The remainder of a polynomial: the walks of the program and of the reference. No condition. -/
import Derived.Test.YtafaecpmffmfgaaFldMath
import Derived.Test.YtafaecpmffmfgaaOwnCp
import Derived.StillTailTactics
namespace Go.Proofs.Ytafaecpmffmfgaa
open Go.RowKit

theorem tmod_fix {x p : Int} (_hp : 0 < p) : (x.tmod p + p) % p = x % p := by
  rw [Int.add_emod_right, Int.tmod_def, Int.sub_mul_emod_self_left]
theorem redTo_in {p f : Int} {by' : List Int} {off j : Nat} {r : List Int} (hp : 0 < p) (hr : InMod p r) (h : off + j < r.length) : ∃ h2 : off + j < (redTo p f by' off j r).length, 0 ≤ (redTo p f by' off j r)[off + j] ∧ (redTo p f by' off j r)[off + j] < p := by
  have h2 : off + j < (redTo p f by' off j r).length := by rw [redTo_len]; exact h
  exact ⟨h2, redTo_mod hp f by' off j r hr _ (List.getElem_mem h2)⟩
theorem redTo_step {p f : Int} {by' : List Int} {off j : Nat} {r : List Int} {x c y : Int} (h2 : off + j < (redTo p f by' off j r).length) (hx : x = (redTo p f by' off j r)[off + j]) (hb : j < by'.length) (hc : c = by'[j]) (hy : y = (x - f * c) % p) :
    redTo p f by' off (j + 1) r = (redTo p f by' off j r).set (off + j) y := by
  rw [redTo, getD_get _ _ h2, getD_get _ _ hb, ← hx, ← hc, hy]
theorem premTo_step {p : Int} {by' z : List Int} {d t : Nat} (ht : t < z.length) : premTo p by' d z (z.length - t) = redTo p ((premTo p by' d z (z.length - (t + 1))).getD t 0) by' (t - d) (d + 1) (premTo p by' d z (z.length - (t + 1))) := by
  have e : z.length - t = (z.length - (t + 1)) + 1 := by omega
  rw [e, premTo]
  have e2 : z.length - 1 - (z.length - (t + 1)) = t := by omega
  rw [e2]
set_option maxHeartbeats 1000000 in
theorem i_rem (v v' : Value) (z by' : List Int) (p : Int) (w : World) (h : Rd w v z) (h' : Rd w v' by') (hp : 2 ≤ p) (hp2 : p ≤ 64) (hz : InMod p z) (hb : InMod p by') (hl : z.length ≤ 12) (hb1 : 1 ≤ by'.length) (hb2 : by'.length ≤ 7) :
    Calls Try.prog 85 #[v, v', .int .i64 p] w (RetRd w (remL p by' z)) := by
  have HRD := Lib.hid h
  obtain ⟨a', cap', rfl, hc', hm', hr'⟩ := h'
  obtain ⟨M, HM⟩ : ∃ M, Hid (M = by'.length) := ⟨_, Lib.hid rfl⟩
  obtain ⟨d, HD⟩ : ∃ d : Nat, Hid (M = d + 1) := ⟨M - 1, Lib.hid (by rw [HM.out]; omega)⟩
  obtain ⟨L, HL⟩ : ∃ L, Hid (L = z.length) := ⟨_, Lib.hid rfl⟩
  have HC' : Hid (∃ b o, a' = some ⟨b, o, none⟩ ∧ b < w.heap.size ∧ ∀ i (h : i < by'.length), w.cell? ⟨b, o + i, none⟩ = some (.int .i64 by'[i])) := Lib.hid (hr' (by omega))
  have HZ := Lib.hid hz
  have HB := Lib.hid hb
  clear h hr' hz hb
  rw [← HM.out] at hc' hb1 hb2 ⊢
  rw [← HL.out] at hl
  have hd1 : M ≤ d + 1 := by have := HD.out; omega
  have hd2 : d + 1 ≤ M := by have := HD.out; omega
  have hMd : (M : Int) - 1 = (d : Int) := by omega
  go_enter Try.func85, Try.ntmps85
  go_wp2_with fail
  refine (c_Clone _ z _ (by rw [← HL.out]; omega) HRD.out).mono ?_
  rintro e w1 ⟨v1, rfl, hown1, hext1⟩
  obtain ⟨A, cap, hv1, hca, hcm, hcg, hcs⟩ := hown1.form
  rw [List.length_map, ← HL.out] at hv1 hca
  subst hv1
  unfold maxLen at hcm
  have HCG := Lib.hid hcg
  have HOW := Lib.hid hown1
  have HEX := Lib.hid hext1
  clear hown1 hext1 hcg hcs
  go_wp2
  go_loopw [9] (fun k wr => ∃ (t : Nat) (ys : List Int), t ≤ L ∧ k = .int .i64 ((t : Int) - 1) ∧ Hid (d ≤ t ∨ t = L) ∧ Hid (ys = premTo p by' d z (L - t)) ∧ Hid (Own wr w.heap.size (.slice A L cap) ys) ∧ Hid (Ext w wr)) (fun k _ => (intOf k + 1).toNat)
  case atStart => exact ⟨L, z, by omega, rfl, Lib.hid (.inr rfl), Lib.hid (by rw [Nat.sub_self]; rfl), HOW, HEX⟩
  case round =>
    obtain ⟨t1, ys, ht, rfl, hdt, hys, hown, hext⟩ := hrel
    have hyl : ys.length = L := by rw [hys.out, premTo_len, HL.out]
    have hym : InMod p ys := by rw [hys.out]; exact premTo_mod (by omega) _ _ HZ.out _
    have HYL := Lib.hid hyl
    have HYM := Lib.hid hym
    clear hyl hym
    by_cases hlt : d < t1
    · obtain ⟨t, rfl⟩ : ∃ t, t1 = t + 1 := ⟨t1 - 1, by omega⟩
      obtain ⟨off, HOFF⟩ : ∃ off, Hid (t = off + d) := ⟨t - d, Lib.hid (by omega)⟩
      obtain ⟨g, rfl, hg1, hg2⟩ := HCG.out (by omega)
      have hty : t < ys.length := by rw [HYL.out]; omega
      have hx := hown.out.cell t (by rw [List.length_map]; exact hty)
      rw [List.getElem_map] at hx
      obtain ⟨f, HF⟩ : ∃ f, Hid (f = ys[t]) := ⟨_, Lib.hid rfl⟩
      have hf := HYM.out _ (List.getElem_mem hty)
      rw [← HF.out] at hx hf
      have hti : ((t + 1 : Nat) : Int) - 1 = (t : Int) := by omega
      have hdt2 : (d : Int) ≤ (t : Int) := by omega
      have HST : Hid (premTo p by' d z (L - t) = redTo p f by' off (d + 1) ys) := Lib.hid (by
        have h1 := premTo_step (p := p) (by' := by') (z := z) (d := d) (t := t) (by rw [← HL.out]; omega)
        rw [← HL.out, ← hys.out, getD_get _ _ hty, ← HF.out, show t - d = off from by have := HOFF.out; omega] at h1
        exact h1)
      rw [hti]
      clear hdt hys hlt hti
      go_wp2
      go_loopw [33] (fun j wr => ∃ (s : Nat) (rs : List Int), s ≤ M ∧ j = .int .i64 s ∧ Hid (rs = redTo p f by' off s ys) ∧ Hid (Own wr w.heap.size (.slice (some ⟨g, 0, none⟩) L cap) rs) ∧ Hid (Ext w wr)) (fun j _ => M - (intOf j).toNat)
      case atStart => exact ⟨0, ys, by omega, rfl, Lib.hid rfl, hown, hext⟩
      case round =>
        clear hx hown hext
        obtain ⟨s, rs, hs, rfl, hrs, hown, hext⟩ := hrel
        by_cases hlt2 : s < M
        · obtain ⟨b, o, rfl, hb, hall⟩ := HC'.out
          have hsb : s < by'.length := by rw [← HM.out]; exact hlt2
          have hy := (hext.out.cell (p := ⟨b, o + s, none⟩) hb).trans (hall s hsb)
          have hc0 := HB.out _ (List.getElem_mem hsb)
          obtain ⟨q, HQ⟩ : ∃ q, Hid (q = off + s) := ⟨_, Lib.hid rfl⟩
          have hin := redTo_in (p := p) (f := f) (by' := by') (off := off) (j := s) (r := ys) (by omega) HYM.out (by rw [HYL.out]; have := HOFF.out; omega)
          rw [← hrs.out, ← HQ.out] at hin
          obtain ⟨h2, hx0, hx1⟩ := hin
          have hxx := hown.out.cell q (by rw [List.length_map]; exact h2)
          rw [List.getElem_map] at hxx
          have hqL : q < L := by have := HQ.out; have := HOFF.out; omega
          have hat : (t : Int) - (d : Int) + (s : Int) = (q : Int) := by have := HQ.out; have := HOFF.out; omega
          obtain ⟨x, HX⟩ : ∃ x, Hid (x = rs[q]) := ⟨_, Lib.hid rfl⟩
          obtain ⟨c, HCC⟩ : ∃ c, Hid (c = by'[s]) := ⟨_, Lib.hid rfl⟩
          rw [← HX.out] at hxx hx0 hx1
          rw [← HCC.out] at hy hc0
          obtain ⟨y, HY⟩ : ∃ y, Hid (y = (x - f * c) % p) := ⟨_, Lib.hid rfl⟩
          have hmod : ((x - f * c).tmod p + p) % p = y := by rw [tmod_fix (by omega), HY.out]
          have hfc : 0 ≤ f * c ∧ f * c ≤ 64 * 64 := ⟨Int.mul_nonneg hf.1 hc0.1, Int.mul_le_mul (by omega) (by omega) hc0.1 (by omega)⟩
          obtain ⟨hfc1, hfc2⟩ := hfc
          have htm1 : -p < (x - f * c).tmod p := Int.lt_tmod_of_pos _ (by omega)
          have htm2 : (x - f * c).tmod p < p := Int.tmod_lt_of_pos _ (by omega)
          have HNX : Hid (rs.set q y = redTo p f by' off (s + 1) ys) := Lib.hid (by
            have h3 : off + s < (redTo p f by' off s ys).length := by rw [← hrs.out, ← HQ.out]; exact h2
            have h4 := redTo_step (p := p) (f := f) (by' := by') (off := off) (j := s) (r := ys) (x := x) (c := c) (y := y) h3 (by rw [HX.out]; simp only [← hrs.out, ← HQ.out]) hsb HCC.out HY.out
            rw [h4, ← hrs.out, ← HQ.out])
          have hf1 := hown.out.frozen q
          obtain ⟨hs1, hs2⟩ := hown.out.stored q (.int .i64 y)
          have HS : Hid (Own (wr.setCell ⟨g, q, none⟩ (.int .i64 y)) w.heap.size (.slice (some ⟨g, 0, none⟩) L cap) (rs.set q y)) := Lib.hid (by
            unfold Own; rw [List.map_set]; exact hs1)
          have HE : Hid (Ext w (wr.setCell ⟨g, q, none⟩ (.int .i64 y))) := Lib.hid (ext_app (e := 2) (v := .slice (some ⟨g, 0, none⟩) L cap) hext.out hown.out hs2)
          clear hs1 hs2 hown hext hall hrs
          go_wp2
          exact ⟨⟨s + 1, _, by omega, by go_num, HNX, HS, HE⟩, by simp only [intOf]; omega⟩
        · obtain rfl : s = M := by omega
          have HYS : Hid (rs = premTo p by' d z (L - t)) := Lib.hid (by rw [hrs.out, HST.out, HD.out])
          clear hrs
          go_wp2
          exact ⟨⟨t, rs, by omega, rfl, Lib.hid (.inl (by omega)), HYS, hown, hext⟩, by simp only [intOf]; omega⟩
    · have h1 : L - t1 = z.length - d := by rcases hdt.out with h | h <;> (have := HL.out; omega)
      by_cases hdl : d ≤ L
      · have HE : Hid (ys.take d = remL p by' z) := Lib.hid (by
          rw [remL, ← HM.out, show M - 1 = d from by have := HD.out; omega, hys.out, h1])
        have HR := Lib.hid (rd_take hown.out.rd d (by rw [HYL.out]; omega))
        clear hdt hys h1
        go_wp2
        go_ret
        exact ⟨_, rfl, by rw [← HE.out]; exact HR.out, hext.out⟩
      · have HE : Hid (ys = remL p by' z) := Lib.hid (by
          rw [remL, ← HM.out, show M - 1 = d from by have := HD.out; omega, hys.out, h1, List.take_of_length_le (by rw [premTo_len, ← HL.out]; omega)])
        clear hdt hys h1
        go_wp2
        go_ret
        exact ⟨_, rfl, by rw [← HE.out]; exact hown.out.rd, hext.out⟩
set_option maxRecDepth 100000 in
set_option maxHeartbeats 1000000 in
theorem s_rem (v v' : Value) (z by' : List Int) (p : Int) (w : World) (h : Rd w v z) (hsn : Sane v) (h' : Rd w v' by') (hp : 2 ≤ p) (hp2 : p ≤ 64) (hz : InMod p z) (hb : InMod p by') (hl : z.length ≤ 12) (hb1 : 1 ≤ by'.length) (hb2 : by'.length ≤ 7) :
    Calls Try.prog 91 #[v, v', .int .i64 p] w (RetRd w (remL p by' z)) := by
  have HRD := Lib.hid h
  obtain ⟨a', cap', rfl, hc', hm', hr'⟩ := h'
  obtain ⟨M, HM⟩ : ∃ M, Hid (M = by'.length) := ⟨_, Lib.hid rfl⟩
  obtain ⟨d, HD⟩ : ∃ d : Nat, Hid (M = d + 1) := ⟨M - 1, Lib.hid (by rw [HM.out]; omega)⟩
  obtain ⟨L, HL⟩ : ∃ L, Hid (L = z.length) := ⟨_, Lib.hid rfl⟩
  have HC' : Hid (∃ b o, a' = some ⟨b, o, none⟩ ∧ b < w.heap.size ∧ ∀ i (h : i < by'.length), w.cell? ⟨b, o + i, none⟩ = some (.int .i64 by'[i])) := Lib.hid (hr' (by omega))
  have HZ := Lib.hid hz
  have HB := Lib.hid hb
  clear h hr' hz hb
  rw [← HM.out] at hc' hb1 hb2 ⊢
  rw [← HL.out] at hl
  have hd1 : M ≤ d + 1 := by have := HD.out; omega
  have hd2 : d + 1 ≤ M := by have := HD.out; omega
  have hMd : (M : Int) - 1 = (d : Int) := by omega
  go_enter Try.func91, Try.ntmps91
  go_wp2_with fail
  refine (s_l00Own _ z _ (by rw [← HL.out]; omega) HRD.out hsn).mono ?_
  rintro e w1 ⟨v1, rfl, hown1, hext1⟩
  obtain ⟨A, cap, hv1, hca, hcm, hcg, hcs⟩ := hown1.form
  rw [List.length_map, ← HL.out] at hv1 hca
  subst hv1
  unfold maxLen at hcm
  have HCG := Lib.hid hcg
  have HOW := Lib.hid hown1
  have HEX := Lib.hid hext1
  clear hown1 hext1 hcg hcs
  go_wp2
  go_loopw [9] (fun k wr => ∃ (t : Nat) (ys : List Int), t ≤ L ∧ k = .int .i64 ((t : Int) - 1) ∧ Hid (d ≤ t ∨ t = L) ∧ Hid (ys = premTo p by' d z (L - t)) ∧ Hid (Own wr w.heap.size (.slice A L cap) ys) ∧ Hid (Ext w wr)) (fun k _ => (intOf k + 1).toNat)
  case atStart => exact ⟨L, z, by omega, rfl, Lib.hid (.inr rfl), Lib.hid (by rw [Nat.sub_self]; rfl), HOW, HEX⟩
  case round =>
    obtain ⟨t1, ys, ht, rfl, hdt, hys, hown, hext⟩ := hrel
    have hyl : ys.length = L := by rw [hys.out, premTo_len, HL.out]
    have hym : InMod p ys := by rw [hys.out]; exact premTo_mod (by omega) _ _ HZ.out _
    have HYL := Lib.hid hyl
    have HYM := Lib.hid hym
    clear hyl hym
    by_cases hlt : d < t1
    · obtain ⟨t, rfl⟩ : ∃ t, t1 = t + 1 := ⟨t1 - 1, by omega⟩
      obtain ⟨off, HOFF⟩ : ∃ off, Hid (t = off + d) := ⟨t - d, Lib.hid (by omega)⟩
      obtain ⟨g, rfl, hg1, hg2⟩ := HCG.out (by omega)
      have hty : t < ys.length := by rw [HYL.out]; omega
      have hx := hown.out.cell t (by rw [List.length_map]; exact hty)
      rw [List.getElem_map] at hx
      obtain ⟨f, HF⟩ : ∃ f, Hid (f = ys[t]) := ⟨_, Lib.hid rfl⟩
      have hf := HYM.out _ (List.getElem_mem hty)
      rw [← HF.out] at hx hf
      have hti : ((t + 1 : Nat) : Int) - 1 = (t : Int) := by omega
      have hdt2 : (d : Int) ≤ (t : Int) := by omega
      have HST : Hid (premTo p by' d z (L - t) = redTo p f by' off (d + 1) ys) := Lib.hid (by
        have h1 := premTo_step (p := p) (by' := by') (z := z) (d := d) (t := t) (by rw [← HL.out]; omega)
        rw [← HL.out, ← hys.out, getD_get _ _ hty, ← HF.out, show t - d = off from by have := HOFF.out; omega] at h1
        exact h1)
      rw [hti]
      clear hdt hys hlt hti
      go_wp2
      go_loopw [11] (fun j wr => ∃ (s : Nat) (rs : List Int), s ≤ M ∧ j = .int .i64 s ∧ Hid (rs = redTo p f by' off s ys) ∧ Hid (Own wr w.heap.size (.slice (some ⟨g, 0, none⟩) L cap) rs) ∧ Hid (Ext w wr)) (fun j _ => M - (intOf j).toNat)
      case atStart => exact ⟨0, ys, by omega, rfl, Lib.hid rfl, hown, hext⟩
      case round =>
        clear hx hown hext
        obtain ⟨s, rs, hs, rfl, hrs, hown, hext⟩ := hrel
        by_cases hlt2 : s < M
        · obtain ⟨b, o, rfl, hb, hall⟩ := HC'.out
          have hsb : s < by'.length := by rw [← HM.out]; exact hlt2
          have hy := (hext.out.cell (p := ⟨b, o + s, none⟩) hb).trans (hall s hsb)
          have hc0 := HB.out _ (List.getElem_mem hsb)
          obtain ⟨q, HQ⟩ : ∃ q, Hid (q = off + s) := ⟨_, Lib.hid rfl⟩
          have hin := redTo_in (p := p) (f := f) (by' := by') (off := off) (j := s) (r := ys) (by omega) HYM.out (by rw [HYL.out]; have := HOFF.out; omega)
          rw [← hrs.out, ← HQ.out] at hin
          obtain ⟨h2, hx0, hx1⟩ := hin
          have hxx := hown.out.cell q (by rw [List.length_map]; exact h2)
          rw [List.getElem_map] at hxx
          have hqL : q < L := by have := HQ.out; have := HOFF.out; omega
          have hat : (t : Int) - (M : Int) + 1 + (s : Int) = (q : Int) := by have := HQ.out; have := HOFF.out; omega
          obtain ⟨x, HX⟩ : ∃ x, Hid (x = rs[q]) := ⟨_, Lib.hid rfl⟩
          obtain ⟨c, HCC⟩ : ∃ c, Hid (c = by'[s]) := ⟨_, Lib.hid rfl⟩
          rw [← HX.out] at hxx hx0 hx1
          rw [← HCC.out] at hy hc0
          obtain ⟨y, HY⟩ : ∃ y, Hid (y = (x - f * c) % p) := ⟨_, Lib.hid rfl⟩
          have hmod : (x + (p - f) * c) % p = y := by rw [HY.out, show x + (p - f) * c = (x - f * c) + p * c from by rw [Int.sub_mul]; omega, Int.add_mul_emod_self_left]
          have hpf : 0 ≤ p - f := by omega
          have hfc : 0 ≤ (p - f) * c ∧ (p - f) * c ≤ 64 * 64 := ⟨Int.mul_nonneg hpf hc0.1, Int.mul_le_mul (by omega) (by omega) hc0.1 (by omega)⟩
          obtain ⟨hfc1, hfc2⟩ := hfc
          have HNX : Hid (rs.set q y = redTo p f by' off (s + 1) ys) := Lib.hid (by
            have h3 : off + s < (redTo p f by' off s ys).length := by rw [← hrs.out, ← HQ.out]; exact h2
            have h4 := redTo_step (p := p) (f := f) (by' := by') (off := off) (j := s) (r := ys) (x := x) (c := c) (y := y) h3 (by rw [HX.out]; simp only [← hrs.out, ← HQ.out]) hsb HCC.out HY.out
            rw [h4, ← hrs.out, ← HQ.out])
          have hf1 := hown.out.frozen q
          obtain ⟨hs1, hs2⟩ := hown.out.stored q (.int .i64 y)
          have HS : Hid (Own (wr.setCell ⟨g, q, none⟩ (.int .i64 y)) w.heap.size (.slice (some ⟨g, 0, none⟩) L cap) (rs.set q y)) := Lib.hid (by
            unfold Own; rw [List.map_set]; exact hs1)
          have HE : Hid (Ext w (wr.setCell ⟨g, q, none⟩ (.int .i64 y))) := Lib.hid (ext_app (e := 2) (v := .slice (some ⟨g, 0, none⟩) L cap) hext.out hown.out hs2)
          clear hs1 hs2 hown hext hall hrs
          go_wp2
          go_region
          go_wp2
          exact ⟨⟨s + 1, _, by omega, by go_num, HNX, Lib.hid (OwnV.drawn HS.out ⟨1, rfl⟩), Lib.hid (Ext.drawn HE.out ⟨1, rfl⟩)⟩, by simp only [intOf]; omega⟩
        · obtain rfl : s = M := by omega
          have HYS : Hid (rs = premTo p by' d z (L - t)) := Lib.hid (by rw [hrs.out, HST.out, HD.out])
          clear hrs
          go_wp2
          exact ⟨⟨t, rs, by omega, rfl, Lib.hid (.inl (by omega)), HYS, hown, hext⟩, by simp only [intOf]; omega⟩
    · have h1 : L - t1 = z.length - d := by rcases hdt.out with h | h <;> (have := HL.out; omega)
      obtain ⟨s0, HS0⟩ : ∃ s0 : Nat, Hid (s0 = min d L) := ⟨_, Lib.hid rfl⟩
      have HE : Hid (ys.take s0 = remL p by' z) := Lib.hid (by
        rw [HS0.out, remL, ← HM.out, show M - 1 = d from by have := HD.out; omega, hys.out, h1]
        by_cases hdl : d ≤ L
        · rw [Nat.min_eq_left hdl]
        · rw [List.take_of_length_le (by rw [premTo_len, ← HL.out]; omega), List.take_of_length_le (by rw [premTo_len, ← HL.out]; omega)])
      have HR := Lib.hid (rd_take hown.out.rd s0 (by rw [HYL.out]; have := HS0.out; omega))
      have hs1 : s0 ≤ d := by have := HS0.out; omega
      have hs2 : s0 ≤ L := by have := HS0.out; omega
      have HS3 : Hid (s0 = d ∨ s0 = L) := Lib.hid (by have := HS0.out; omega)
      clear hdt hys h1
      go_wp2
      go_loop [7] (fun u => ∃ s : Nat, u = .slice A s cap ∧ s0 ≤ s ∧ s ≤ L) (fun u => match u with | .slice _ n _ => n | _ => 0)
      case atStart => exact ⟨L, rfl, hs2, by omega⟩
      case round =>
        obtain ⟨s, rfl, e1, e2⟩ := hrel
        by_cases hsM : M ≤ s
        · obtain ⟨s1, rfl⟩ : ∃ s1, s = s1 + 1 := ⟨s - 1, by omega⟩
          have hsi : ((s1 + 1 : Nat) : Int) - 1 = (s1 : Int) := by omega
          go_wp2
          exact ⟨⟨s1, rfl, by omega, by omega⟩, by show s1 < s1 + 1; omega⟩
        · obtain rfl : s = s0 := by rcases HS3.out with h | h <;> omega
          go_wp2
          go_ret
          exact ⟨_, rfl, by rw [← HE.out]; exact HR.out, hext.out⟩
end Go.Proofs.Ytafaecpmffmfgaa
