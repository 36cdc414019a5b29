/- Sums of two elements: the walks of the program and of the reference. No condition. -/
import Derived.Test.YtafaecpmffmfgaaFldMul
namespace Go.Proofs.Ytafaecpmffmfgaa
open Go.RowKit

/-- x + k y, place by place. -/
def sumN (P k : Int) (d : Nat) (x y : Int) : Int := numL P (convIn P k (digL P d y) 0 d (digL P d x))
theorem sumN_bd {P : Int} (hP : 0 < P) (k : Int) (d : Nat) (x y : Int) : 0 ≤ sumN P k d x y ∧ sumN P k d x y < P ^ d := by
  have := numL_nonneg hP (convIn P k (digL P d y) 0 d (digL P d x)) (convIn_mod hP _ _ _ _ _ (digL_mod hP _ _))
  rw [convIn_len, digL_len] at this
  exact this
set_option maxRecDepth 100000 in
set_option maxHeartbeats 4000000 in
theorem s_sum (b : Nat) (P : Int) (d : Nat) (v : Value) (x y k : Int) (w0 : World) (p1 : 2 ≤ P) (p2 : P ≤ 64) (d1 : 1 ≤ d) (d2 : d ≤ 6) (h : FldAt w0 b P d v) (hx : 0 ≤ x) (hx2 : x ≤ 1000000) (hy : 0 ≤ y) (hy2 : y ≤ 1000000) (hk : 0 ≤ k) (hk2 : k ≤ 64) :
    Calls Try.prog 65 #[.pointer (some ⟨b, 0, none⟩), .int .i64 x, .int .i64 y, .int .i64 k] w0 fun e w' => e = .returned (.int .i64 (sumN P k d x y)) ∧ Ext w0 w' := by
  have HF := Lib.hid h
  obtain ⟨X, HX⟩ : ∃ X, Hid (X = digL P d x) := ⟨_, Lib.hid rfl⟩
  obtain ⟨Y, HY⟩ : ∃ Y, Hid (Y = digL P d y) := ⟨_, Lib.hid rfl⟩
  obtain ⟨R, HR⟩ : ∃ R, Hid (R = sumN P k d x y) := ⟨_, Lib.hid rfl⟩
  have HXL : Hid (X.length = d) := Lib.hid (by rw [HX.out, digL_len])
  have HYL : Hid (Y.length = d) := Lib.hid (by rw [HY.out, digL_len])
  have HXM : Hid (InMod P X) := Lib.hid (by rw [HX.out]; exact digL_mod (by omega) _ _)
  have HYM : Hid (InMod P Y) := Lib.hid (by rw [HY.out]; exact digL_mod (by omega) _ _)
  rw [← HR.out]
  obtain ⟨hbw, c0, c1, c2⟩ := h
  go_enter Try.func65, Try.ntmps65
  go_wp2
  go_region_held3 (fun w' => Ext w0 w' ∧ w'.cell? ⟨b, 0, none⟩ = some (.int .i64 P) ∧ w'.cell? ⟨b, 1, none⟩ = some (.int .i64 d)) (first | exact ⟨Ext.drewN (Ext.refl _) 1, c0, c1⟩ | exact ⟨hextK, (HF.out.ext hextK).2.1, (HF.out.ext hextK).2.2.1⟩)
    (first | (go_at_call 86; refine (s_digits x P d _ p1 p2 hx hx2 (by omega)).mono ?_; rintro e w1 ⟨v1, rfl, hown1, hext1⟩; have hextK := Ext.trans (Ext.drewN (Ext.refl w0) 1) hext1))
  have HE1 := Lib.hid hextK
  have HO1 : Hid (Own w1 w0.heap.size v1 X) := Lib.hid (by rw [HX.out]; exact hown1)
  have HF1 := Lib.hid (HF.out.ext HE1.out)
  clear hextK hown1 hext1 c0 c1 c2
  obtain ⟨_, c0, c1, c2⟩ := HF1.out
  go_wp2
  go_region_held3 (fun w' => Ext w1 w' ∧ w'.cell? ⟨b, 0, none⟩ = some (.int .i64 P) ∧ w'.cell? ⟨b, 1, none⟩ = some (.int .i64 d)) (first | exact ⟨Ext.drewN (Ext.refl _) 1, c0, c1⟩ | exact ⟨hextK, (HF1.out.ext hextK).2.1, (HF1.out.ext hextK).2.2.1⟩)
    (first | (go_at_call 86; refine (s_digits y P d _ p1 p2 hy hy2 (by omega)).mono ?_; rintro e w2 ⟨v2, rfl, hown2, hext2⟩; have hextK := Ext.trans (Ext.drewN (Ext.refl w1) 1) hext2))
  have HE2 := Lib.hid (HE1.out.trans hextK)
  have HO1' := Lib.hid (HO1.out.ext hextK)
  have HO2 : Hid (Own w2 w1.heap.size v2 Y) := Lib.hid (by rw [HY.out]; exact hown2)
  have hg1b : ∀ g c n, v1 = .slice (some ⟨g, 0, none⟩) n c → g < w1.heap.size := fun g c n e => (HO1.out.lt g (by rw [e]; rfl)).2
  have HG1 := Lib.hid hg1b
  clear hextK hown2 hext2 c0 c1 c2 HO1 hg1b
  obtain ⟨g1, cap1, rfl, hcg1, hg0, hg1⟩ := HO1'.out.head (by rw [List.length_map, HXL.out]; omega)
  obtain ⟨g2, cap2, rfl, hcg2, hg20, hg2⟩ := HO2.out.head (by rw [List.length_map, HYL.out]; omega)
  have hcap1 : cap1 ≤ 9223372036854775807 := by
    obtain ⟨_, _, h1, _, h3, _⟩ := HO1'.out.form
    cases h1; exact h3
  have hcap2 : cap2 ≤ 9223372036854775807 := by
    obtain ⟨_, _, h1, _, h3, _⟩ := HO2.out.form
    cases h1; exact h3
  have HO1'' : Hid (Own w2 w0.heap.size (.slice (some ⟨g1, 0, none⟩) d cap1) X) := Lib.hid (by have := HO1'.out; rw [List.length_map, HXL.out] at this; exact this)
  have HO2' : Hid (Own w2 w1.heap.size (.slice (some ⟨g2, 0, none⟩) d cap2) Y) := Lib.hid (by have := HO2.out; rw [List.length_map, HYL.out] at this; exact this)
  rw [List.length_map, HXL.out] at hcg1 ⊢
  rw [List.length_map, HYL.out] at hcg2 ⊢
  have hg12 := HG1.out _ _ _ rfl
  clear HO1' HO2
  go_wp2
  go_loopw [11] (fun i wr => ∃ (s : Nat) (rs : List Int), s ≤ d ∧ i = .int .i64 s ∧ Hid (rs = convIn P k Y 0 s X) ∧ Hid (Own wr w0.heap.size (.slice (some ⟨g1, 0, none⟩) d cap1) rs) ∧ Hid (Own wr w1.heap.size (.slice (some ⟨g2, 0, none⟩) d cap2) Y) ∧ Hid (Ext w0 wr)) (fun i _ => d - (intOf i).toNat)
  case atStart => exact ⟨0, X, by omega, rfl, Lib.hid rfl, HO1'', HO2', HE2⟩
  case round =>
    obtain ⟨s, rs, hs, rfl, hrs, hown, hownY, hext⟩ := hrel
    obtain ⟨hb0, e0, e1, e2⟩ := HF.out.ext hext.out
    by_cases hlt2 : s < d
    · have hsY : s < Y.length := by rw [HYL.out]; exact hlt2
      have hc0 := HYM.out _ (List.getElem_mem hsY)
      have hyc := hownY.out.cell s (by rw [List.length_map]; exact hsY)
      rw [List.getElem_map] at hyc
      have hin := convIn_in (p := P) (x := k) (y := Y) (i := 0) (j := s) (r := X) (by omega) HXM.out (by rw [HXL.out]; omega)
      rw [← hrs.out, Nat.zero_add] at hin
      obtain ⟨h2, hx0, hx1⟩ := hin
      have hzz := hown.out.cell s (by rw [List.length_map]; exact h2)
      rw [List.getElem_map] at hzz
      obtain ⟨zq, HZQ⟩ : ∃ zq, Hid (zq = rs[s]) := ⟨_, Lib.hid rfl⟩
      obtain ⟨c, HCC⟩ : ∃ c, Hid (c = Y[s]) := ⟨_, Lib.hid rfl⟩
      rw [← HZQ.out] at hzz hx0 hx1
      rw [← HCC.out] at hyc hc0
      obtain ⟨u, HU⟩ : ∃ u, Hid (u = (zq + k * c) % P) := ⟨_, Lib.hid rfl⟩
      have hmod : (zq + k * c) % P = u := HU.out.symm
      have hfc : 0 ≤ k * c ∧ k * c ≤ 64 * 64 := ⟨Int.mul_nonneg hk hc0.1, Int.mul_le_mul (by omega) (by omega) hc0.1 (by omega)⟩
      obtain ⟨hfc1, hfc2⟩ := hfc
      have HNX : Hid (rs.set s u = convIn P k Y 0 (s + 1) X) := Lib.hid (by
        have h3 : 0 + s < (convIn P k Y 0 s X).length := by rw [← hrs.out, Nat.zero_add]; exact h2
        have h4 := convIn_step (p := P) (x := k) (y := Y) (i := 0) (j := s) (r := X) (z := zq) (c := c) (u := u) h3 (by rw [HZQ.out]; simp only [← hrs.out, Nat.zero_add]) hsY HCC.out HU.out
        rw [h4, ← hrs.out, Nat.zero_add])
      have hf1 := hown.out.frozen s
      obtain ⟨hs1, hs2⟩ := hown.out.stored s (.int .i64 u)
      have HS : Hid (Own (wr.setCell ⟨g1, s, none⟩ (.int .i64 u)) w0.heap.size (.slice (some ⟨g1, 0, none⟩) d cap1) (rs.set s u)) := Lib.hid (by
        unfold Own; rw [List.map_set]; exact hs1)
      have HSY : Hid (Own (wr.setCell ⟨g1, s, none⟩ (.int .i64 u)) w1.heap.size (.slice (some ⟨g2, 0, none⟩) d cap2) Y) := Lib.hid (OwnV.kept hownY.out hs2 (.inr (by simp [Value.ownBlock]; omega)))
      have HE : Hid (Ext w0 (wr.setCell ⟨g1, s, none⟩ (.int .i64 u))) := Lib.hid (ext_app (e := 2) (v := .slice (some ⟨g1, 0, none⟩) d cap1) hext.out hown.out hs2)
      have hb2w : b ≠ g1 := by omega
      clear hs1 hs2 hown hownY hext hrs
      go_wp2
      go_region
      go_wp2
      exact ⟨⟨s + 1, _, by omega, by go_num, HNX, Lib.hid (OwnV.drawn HS.out ⟨1, rfl⟩), Lib.hid (OwnV.drawn HSY.out ⟨1, rfl⟩), Lib.hid (Ext.drawn HE.out ⟨1, rfl⟩)⟩, by simp only [intOf]; omega⟩
    · obtain rfl : s = d := by omega
      have HFIN : Hid (R = numL P rs) := Lib.hid (by rw [HR.out, sumN, ← HX.out, ← HY.out, hrs.out])
      have HRM : Hid (InMod P rs) := Lib.hid (by rw [hrs.out]; exact convIn_mod (by omega) _ _ _ _ _ HXM.out)
      have HRL : Hid (rs.length ≤ 6) := Lib.hid (by rw [hrs.out, convIn_len, HXL.out]; omega)
      have HRD2 := Lib.hid hown.out.rd
      have HEF := Lib.hid (hext.out)
      clear hrs hown hownY hext
      go_wp2_with fail
      refine (s_number _ _ P _ HRD2.out p1 p2 HRM.out HRL.out).mono ?_
      rintro e _ ⟨rfl, rfl⟩
      rw [← HFIN.out]
      go_wp2
      go_ret
      exact ⟨rfl, HEF.out⟩
theorem sign_mod {P k s z c : Int} (h : (s = 1 ∧ k = 1) ∨ (s = -1 ∧ k = P - 1)) : (z + s * c + P) % P = (z + k * c) % P := by
  rcases h with ⟨rfl, rfl⟩ | ⟨rfl, rfl⟩
  · rw [Int.add_emod_right]
  · rw [Int.add_emod_right, show z + (P - 1) * c = (z + -1 * c) + P * c from by rw [Int.sub_mul]; omega, Int.add_mul_emod_self_left]
set_option maxRecDepth 100000 in
set_option maxHeartbeats 4000000 in
theorem i_sum (P : Int) (d : Nat) (v : Value) (xs : List Int) (x y k sg : Int) (w : World) (p1 : 2 ≤ P) (p2 : P ≤ 64) (d1 : 1 ≤ d) (d2 : d ≤ 6) (h : Rd w v xs) (hx : 0 ≤ x) (hx2 : x ≤ 1000000) (hy : 0 ≤ y) (hy2 : y ≤ 1000000) (hk : (sg = 1 ∧ k = 1) ∨ (sg = -1 ∧ k = P - 1)) :
    Calls Try.prog 67 #[.agg #[.int .i64 P, .int .i64 d, v], .int .i64 x, .int .i64 y, .int .i64 sg] w fun e w' => e = .returned (.int .i64 (sumN P k d x y)) ∧ Ext w w' := by
  have HRD := Lib.hid h
  obtain ⟨X, HX⟩ : ∃ X, Hid (X = digL P d x) := ⟨_, Lib.hid rfl⟩
  obtain ⟨Y, HY⟩ : ∃ Y, Hid (Y = digL P d y) := ⟨_, Lib.hid rfl⟩
  obtain ⟨R, HR⟩ : ∃ R, Hid (R = sumN P k d x y) := ⟨_, Lib.hid rfl⟩
  have HXL : Hid (X.length = d) := Lib.hid (by rw [HX.out, digL_len])
  have HYL : Hid (Y.length = d) := Lib.hid (by rw [HY.out, digL_len])
  have HXM : Hid (InMod P X) := Lib.hid (by rw [HX.out]; exact digL_mod (by omega) _ _)
  have HYM : Hid (InMod P Y) := Lib.hid (by rw [HY.out]; exact digL_mod (by omega) _ _)
  rw [← HR.out]
  have HK := Lib.hid hk
  clear hk
  have HF := Lib.hid (FldAt.new w P d v 27)
  have HE0 := Lib.hid (ext_alloc w (.cells #[.int .i64 P, .int .i64 d, v] 27))
  go_enter Try.func67, Try.ntmps67
  go_wp2
  generalize hw0 : w.alloc (.cells #[.int .i64 P, .int .i64 d, v] 27) = w0 at HF HE0 ⊢
  clear hw0
  obtain ⟨hb00, c0, c1, c2⟩ := HF.out
  go_region_held3 (fun w' => Ext w0 w' ∧ w'.cell? ⟨w.heap.size, 0, none⟩ = some (.int .i64 P) ∧ w'.cell? ⟨w.heap.size, 1, none⟩ = some (.int .i64 d)) (first | exact ⟨Ext.drewN (Ext.refl _) 1, c0, c1⟩ | exact ⟨hextK2, (HF.out.ext hextK2).2.1, (HF.out.ext hextK2).2.2.1⟩ | exact ⟨hextK, (HF.out.ext hextK).2.1, (HF.out.ext hextK).2.2.1⟩)
    (first | (go_at_call 61; (with_reducible refine (i_digits x P d _ p1 p2 hx hx2 (by omega)).mono ?_); rintro e w1 ⟨v1, rfl, hown1, hext1⟩; have hextK := Ext.trans (Ext.drewN (Ext.refl w0) 1) hext1) | (go_at_call 61; (with_reducible refine (i_digits y P d _ p1 p2 hy hy2 (by omega)).mono ?_); rintro e w2 ⟨v2, rfl, hown2, hext2⟩; have hextK2 := Ext.trans hextK hext2))
  have HE2 := Lib.hid hextK2
  have HO1' : Hid (Own w2 w0.heap.size v1 X) := Lib.hid (by rw [HX.out]; exact OwnV.ext hown1 hext2)
  have HO2 : Hid (Own w2 w1.heap.size v2 Y) := Lib.hid (by rw [HY.out]; exact hown2)
  have hg1b : ∀ g c n, v1 = .slice (some ⟨g, 0, none⟩) n c → g < w1.heap.size := fun g c n e => (OwnV.lt hown1 g (by rw [e]; rfl)).2
  have HG1 := Lib.hid hg1b
  clear hextK hextK2 hown1 hown2 hext1 hext2 c0 c1 c2 hg1b
  obtain ⟨g1, cap1, rfl, hcg1, hg0, hg1⟩ := HO1'.out.head (by rw [List.length_map, HXL.out]; omega)
  obtain ⟨g2, cap2, rfl, hcg2, hg20, hg2⟩ := HO2.out.head (by rw [List.length_map, HYL.out]; omega)
  have hcap1 : cap1 ≤ 9223372036854775807 := by
    obtain ⟨_, _, h1, _, h3, _⟩ := HO1'.out.form
    cases h1; exact h3
  have hcap2 : cap2 ≤ 9223372036854775807 := by
    obtain ⟨_, _, h1, _, h3, _⟩ := HO2.out.form
    cases h1; exact h3
  have HO1'' : Hid (Own w2 w0.heap.size (.slice (some ⟨g1, 0, none⟩) d cap1) X) := Lib.hid (by have := HO1'.out; rw [List.length_map, HXL.out] at this; exact this)
  have HO2' : Hid (Own w2 w1.heap.size (.slice (some ⟨g2, 0, none⟩) d cap2) Y) := Lib.hid (by have := HO2.out; rw [List.length_map, HYL.out] at this; exact this)
  rw [List.length_map, HXL.out] at hcg1 ⊢
  rw [List.length_map, HYL.out] at hcg2 ⊢
  have hg12 := HG1.out _ _ _ rfl
  clear HO1' HO2
  go_wp2
  go_loopw [26] (fun i wr => ∃ (s : Nat) (rs : List Int), s ≤ d ∧ i = .int .i64 s ∧ Hid (rs = convIn P k Y 0 s X) ∧ Hid (Own wr w0.heap.size (.slice (some ⟨g1, 0, none⟩) d cap1) rs) ∧ Hid (Own wr w1.heap.size (.slice (some ⟨g2, 0, none⟩) d cap2) Y) ∧ Hid (Ext w0 wr)) (fun i _ => d - (intOf i).toNat)
  case atStart => exact ⟨0, X, by omega, rfl, Lib.hid rfl, HO1'', HO2', HE2⟩
  case round =>
    obtain ⟨s, rs, hs, rfl, hrs, hown, hownY, hext⟩ := hrel
    obtain ⟨hb0, e0, e1, e2⟩ := HF.out.ext hext.out
    by_cases hlt2 : s < d
    · have hsY : s < Y.length := by rw [HYL.out]; exact hlt2
      have hc0 := HYM.out _ (List.getElem_mem hsY)
      have hyc := hownY.out.cell s (by rw [List.length_map]; exact hsY)
      rw [List.getElem_map] at hyc
      have hin := convIn_in (p := P) (x := k) (y := Y) (i := 0) (j := s) (r := X) (by omega) HXM.out (by rw [HXL.out]; omega)
      rw [← hrs.out, Nat.zero_add] at hin
      obtain ⟨h2, hx0, hx1⟩ := hin
      have hzz := hown.out.cell s (by rw [List.length_map]; exact h2)
      rw [List.getElem_map] at hzz
      obtain ⟨zq, HZQ⟩ : ∃ zq, Hid (zq = rs[s]) := ⟨_, Lib.hid rfl⟩
      obtain ⟨c, HCC⟩ : ∃ c, Hid (c = Y[s]) := ⟨_, Lib.hid rfl⟩
      rw [← HZQ.out] at hzz hx0 hx1
      rw [← HCC.out] at hyc hc0
      obtain ⟨u, HU⟩ : ∃ u, Hid (u = (zq + k * c) % P) := ⟨_, Lib.hid rfl⟩
      have hmod : (zq + sg * c + P) % P = u := by rw [sign_mod HK.out, HU.out]
      have hfc : -64 ≤ sg * c ∧ sg * c ≤ 64 ∧ -P < sg * c := by
        rcases HK.out with ⟨e, _⟩ | ⟨e, _⟩ <;> rw [e] <;> omega
      obtain ⟨hfc1, hfc2, hfc3⟩ := hfc
      have HNX : Hid (rs.set s u = convIn P k Y 0 (s + 1) X) := Lib.hid (by
        have h3 : 0 + s < (convIn P k Y 0 s X).length := by rw [← hrs.out, Nat.zero_add]; exact h2
        have h4 := convIn_step (p := P) (x := k) (y := Y) (i := 0) (j := s) (r := X) (z := zq) (c := c) (u := u) h3 (by rw [HZQ.out]; simp only [← hrs.out, Nat.zero_add]) hsY HCC.out HU.out
        rw [h4, ← hrs.out, Nat.zero_add])
      have hf1 := hown.out.frozen s
      obtain ⟨hs1, hs2⟩ := hown.out.stored s (.int .i64 u)
      have HS : Hid (Own (wr.setCell ⟨g1, s, none⟩ (.int .i64 u)) w0.heap.size (.slice (some ⟨g1, 0, none⟩) d cap1) (rs.set s u)) := Lib.hid (by
        unfold Own; rw [List.map_set]; exact hs1)
      have HSY : Hid (Own (wr.setCell ⟨g1, s, none⟩ (.int .i64 u)) w1.heap.size (.slice (some ⟨g2, 0, none⟩) d cap2) Y) := Lib.hid (OwnV.kept hownY.out hs2 (.inr (by simp [Value.ownBlock]; omega)))
      have HE : Hid (Ext w0 (wr.setCell ⟨g1, s, none⟩ (.int .i64 u))) := Lib.hid (ext_app (e := 2) (v := .slice (some ⟨g1, 0, none⟩) d cap1) hext.out hown.out hs2)
      have hb2w : w.heap.size ≠ g1 := by omega
      clear hs1 hs2 hown hownY hext hrs
      go_wp2
      go_region
      go_wp2
      exact ⟨⟨s + 1, _, by omega, by go_num, HNX, Lib.hid (OwnV.drawn HS.out ⟨1, rfl⟩), Lib.hid (OwnV.drawn HSY.out ⟨1, rfl⟩), Lib.hid (Ext.drawn HE.out ⟨1, rfl⟩)⟩, by simp only [intOf]; omega⟩
    · obtain rfl : s = d := by omega
      have HFIN : Hid (R = numL P rs) := Lib.hid (by rw [HR.out, sumN, ← HX.out, ← HY.out, hrs.out])
      have HRM : Hid (InMod P rs) := Lib.hid (by rw [hrs.out]; exact convIn_mod (by omega) _ _ _ _ _ HXM.out)
      have HRL : Hid (rs.length ≤ 6) := Lib.hid (by rw [hrs.out, convIn_len, HXL.out]; omega)
      have HRD2 := Lib.hid hown.out.rd
      have HEF := Lib.hid (HE0.out.trans hext.out)
      clear hrs hown hownY hext
      go_wp2_with fail
      refine (i_number _ _ P _ HRD2.out p1 p2 HRM.out HRL.out).mono ?_
      rintro e _ ⟨rfl, rfl⟩
      rw [← HFIN.out]
      go_wp2
      go_ret
      exact ⟨rfl, HEF.out⟩
end Go.Proofs.Ytafaecpmffmfgaa
