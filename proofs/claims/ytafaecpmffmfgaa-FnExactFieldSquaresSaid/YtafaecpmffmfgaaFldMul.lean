/- The product of two elements: the walks of the program and of the reference. No condition. -/
import Derived.Test.YtafaecpmffmfgaaFldGrp
import Derived.Test.YtafaecpmffmfgaaFldVal
import Derived.Deep.RegionHeld3
namespace Go.Proofs.Ytafaecpmffmfgaa
open Go.RowKit

/-- What the walks ask of a field: its prime, its degree, its polynomial but the last place. -/
def FldOk (P : Int) (d : Nat) (cs : List Int) : Prop := 2 ≤ P ∧ P ≤ 64 ∧ 1 ≤ d ∧ d ≤ 6 ∧ cs.length = d ∧ InMod P cs
theorem convIn_in {p x : Int} {y : List Int} {i j : Nat} {r : List Int} (hp : 0 < p) (hr : InMod p r) (h : i + j < r.length) : ∃ h2 : i + j < (convIn p x y i j r).length, 0 ≤ (convIn p x y i j r)[i + j] ∧ (convIn p x y i j r)[i + j] < p := by
  have h2 : i + j < (convIn p x y i j r).length := by rw [convIn_len]; exact h
  exact ⟨h2, convIn_mod hp x y i j r hr _ (List.getElem_mem h2)⟩
theorem convIn_step {p x : Int} {y : List Int} {i j : Nat} {r : List Int} {z c u : Int} (h2 : i + j < (convIn p x y i j r).length) (hz : z = (convIn p x y i j r)[i + j]) (hb : j < y.length) (hc : c = y[j]) (hu : u = (z + x * c) % p) :
    convIn p x y i (j + 1) r = (convIn p x y i j r).set (i + j) u := by
  rw [convIn, getD_get _ _ h2, getD_get _ _ hb, ← hz, ← hc, hu]
theorem snoc_mod {p : Int} (hp : 2 ≤ p) {cs : List Int} (h : InMod p cs) : InMod p (cs ++ [1]) := by
  intro x hx
  rcases List.mem_append.1 hx with hx | hx
  · exact h x hx
  · rw [List.mem_singleton] at hx; subst hx; omega
set_option maxRecDepth 100000 in
set_option maxHeartbeats 4000000 in
theorem s_mul (b : Nat) (P : Int) (d : Nat) (v : Value) (cs : List Int) (x y : Int) (w : World) (hF : FldOk P d cs) (hf : FldAt w b P d v) (h : Rd w v (cs ++ [1])) (hx : 0 ≤ x) (hx2 : x ≤ 1000000) (hy : 0 ≤ y) (hy2 : y ≤ 1000000) :
    Calls Try.prog 68 #[.pointer (some ⟨b, 0, none⟩), .int .i64 x, .int .i64 y] w fun e w' => e = .returned (.int .i64 (mulN P cs x y)) ∧ Ext w w' := by
  have HRD := Lib.hid h
  have HF := Lib.hid hf
  obtain ⟨p1, p2, d1, d2, hcs, hcm⟩ := hF
  have HCS := Lib.hid hcs
  have HCM := Lib.hid hcm
  obtain ⟨hbw, c0, c1, c2⟩ := hf
  obtain ⟨X, HX⟩ : ∃ X, Hid (X = digL P d x) := ⟨_, Lib.hid rfl⟩
  obtain ⟨Y, HY⟩ : ∃ Y, Hid (Y = digL P d y) := ⟨_, Lib.hid rfl⟩
  obtain ⟨R, HR⟩ : ∃ R, Hid (R = mulN P cs x y) := ⟨_, Lib.hid rfl⟩
  obtain ⟨Z, HZZ⟩ : ∃ Z, Hid (Z = 2 * d - 1) := ⟨_, Lib.hid rfl⟩
  have hZ : 2 * (d : Int) - 1 = (Z : Int) := by have := HZZ.out; omega
  have hZ2 : Z ≤ 12 := by have := HZZ.out; omega
  have HXL : Hid (X.length = d) := Lib.hid (by rw [HX.out, digL_len])
  have HYL : Hid (Y.length = d) := Lib.hid (by rw [HY.out, digL_len])
  have HXM : Hid (InMod P X) := Lib.hid (by rw [HX.out]; exact digL_mod (by omega) _ _)
  have HYM : Hid (InMod P Y) := Lib.hid (by rw [HY.out]; exact digL_mod (by omega) _ _)
  rw [← HR.out]
  clear h hcs hcm
  go_enter Try.func68, Try.ntmps68
  go_wp2
  go_region_held3 (fun w' => Ext w w' ∧ w'.cell? ⟨b, 0, none⟩ = some (.int .i64 P) ∧ w'.cell? ⟨b, 1, none⟩ = some (.int .i64 d)) (first | exact ⟨Ext.drewN (Ext.refl _) 1, c0, c1⟩ | exact ⟨hextK, (HF.out.ext hextK).2.1, (HF.out.ext hextK).2.2.1⟩)
    (first | (go_at_call 86; refine (s_digits x P d _ p1 p2 hx hx2 (by omega)).mono ?_; rintro e w1 ⟨v1, rfl, hown1, hext1⟩; have hextK := Ext.trans (Ext.drewN (Ext.refl w) 1) hext1))
  have HE1 := Lib.hid hextK
  have HO1 : Hid (Own w1 w.heap.size v1 X) := Lib.hid (by rw [HX.out]; exact hown1)
  have HF1 := Lib.hid (HF.out.ext HE1.out)
  clear hextK hown1 hext1 c0 c1 c2
  obtain ⟨_, c0, c1, c2⟩ := HF1.out
  go_wp2
  go_region_held3 (fun w' => Ext w1 w' ∧ w'.cell? ⟨b, 0, none⟩ = some (.int .i64 P) ∧ w'.cell? ⟨b, 1, none⟩ = some (.int .i64 d)) (first | exact ⟨Ext.drewN (Ext.refl _) 1, c0, c1⟩ | exact ⟨hextK, (HF1.out.ext hextK).2.1, (HF1.out.ext hextK).2.2.1⟩)
    (first | (go_at_call 86; refine (s_digits y P d _ p1 p2 hy hy2 (by omega)).mono ?_; rintro e w2 ⟨v2, rfl, hown2, hext2⟩; have hextK := Ext.trans (Ext.drewN (Ext.refl w1) 1) hext2))
  have HE2 := Lib.hid (HE1.out.trans hextK)
  have HO1' := Lib.hid (HO1.out.ext hextK)
  have HO2 : Hid (Own w2 w1.heap.size v2 Y) := Lib.hid (by rw [HY.out]; exact hown2)
  have HF2 := Lib.hid (HF.out.ext HE2.out)
  clear hextK hown2 hext2 c0 c1 c2 HO1
  obtain ⟨_, c0, c1, c2⟩ := HF2.out
  obtain ⟨g1, cap1, rfl, hcg1, _, hg1⟩ := HO1'.out.head (by rw [List.length_map, HXL.out]; omega)
  obtain ⟨g2, cap2, rfl, hcg2, _, hg2⟩ := HO2.out.head (by rw [List.length_map, HYL.out]; omega)
  have hcap1 : cap1 ≤ 9223372036854775807 := by
    obtain ⟨_, _, h1, _, h3, _⟩ := HO1'.out.form
    cases h1; exact h3
  have hcap2 : cap2 ≤ 9223372036854775807 := by
    obtain ⟨_, _, h1, _, h3, _⟩ := HO2.out.form
    cases h1; exact h3
  have HCX : Hid (∀ k (h : k < X.length), w2.cell? ⟨g1, k, none⟩ = some (.int .i64 X[k])) := Lib.hid (fun k h => by
    have := HO1'.out.cell k (by rw [List.length_map]; exact h)
    rw [List.getElem_map] at this; exact this)
  have HCY : Hid (∀ k (h : k < Y.length), w2.cell? ⟨g2, k, none⟩ = some (.int .i64 Y[k])) := Lib.hid (fun k h => by
    have := HO2.out.cell k (by rw [List.length_map]; exact h)
    rw [List.getElem_map] at this; exact this)
  rw [List.length_map, HXL.out] at hcg1 ⊢
  rw [List.length_map, HYL.out] at hcg2 ⊢
  go_wp2_with (at_make; refine wp_make _ rfl _ _ rfl w2.heap.size .i64 .i64 _ _ Z rfl rfl rfl rfl (by omega) (Nat.le_refl _) ?_; intro w3 hown3 hext3)
  have HO3 := Lib.hid hown3
  have HE3 := Lib.hid hext3
  clear hown3 hext3 c0 c1 c2
  go_loopw [10] (fun i wr => ∃ (k : Nat) (zs : List Int), k ≤ d ∧ i = .int .i64 k ∧ Hid (zs = convTo P X Y (List.replicate Z 0) k) ∧ Hid (Own wr w2.heap.size (.slice (some ⟨w2.heap.size, 0, none⟩) Z Z) zs) ∧ Hid (Ext w2 wr)) (fun i _ => d - (intOf i).toNat)
  case atStart => exact ⟨0, List.replicate Z 0, by omega, rfl, Lib.hid rfl, HO3, HE3⟩
  case round =>
    obtain ⟨k, zs, hk, rfl, hzs, hown, hext⟩ := hrel
    have hzl : zs.length = Z := by rw [hzs.out, convTo_len, List.length_replicate]
    have hzm : InMod P zs := by rw [hzs.out]; exact convTo_mod (by omega) _ _ _ (InMod_repl (by omega) _) _
    have HZL := Lib.hid hzl
    have HZM := Lib.hid hzm
    clear hzl hzm
    by_cases hlt : k < d
    · have hkX : k < X.length := by rw [HXL.out]; exact hlt
      have hxk0 := HXM.out _ (List.getElem_mem hkX)
      obtain ⟨xk, HXK⟩ : ∃ xk, Hid (xk = X[k]) := ⟨_, Lib.hid rfl⟩
      rw [← HXK.out] at hxk0
      have HST : Hid (convTo P X Y (List.replicate Z 0) (k + 1) = convIn P xk Y k d zs) := Lib.hid (by rw [convTo, ← hzs.out, getD_get _ _ hkX, ← HXK.out, HYL.out])
      clear hzs
      go_wp2
      go_loopw [11] (fun j wr => ∃ (s : Nat) (rs : List Int), s ≤ d ∧ j = .int .i64 s ∧ Hid (rs = convIn P xk Y k s zs) ∧ Hid (Own wr w2.heap.size (.slice (some ⟨w2.heap.size, 0, none⟩) Z Z) rs) ∧ Hid (Ext w2 wr)) (fun j _ => d - (intOf j).toNat)
      case atStart => exact ⟨0, zs, by omega, rfl, Lib.hid rfl, hown, hext⟩
      case round =>
        clear hown hext
        obtain ⟨s, rs, hs, rfl, hrs, hown, hext⟩ := hrel
        by_cases hlt2 : s < d
        · have hsY : s < Y.length := by rw [HYL.out]; exact hlt2
          have hc0 := HYM.out _ (List.getElem_mem hsY)
          have hxc := (hext.out.cell (p := ⟨g1, k, none⟩) hg1).trans (HCX.out k hkX)
          have hyc := (hext.out.cell (p := ⟨g2, s, none⟩) hg2).trans (HCY.out s hsY)
          obtain ⟨hb0, e0, e1, e2⟩ := HF2.out.ext hext.out
          obtain ⟨q, HQ⟩ : ∃ q, Hid (q = k + s) := ⟨_, Lib.hid rfl⟩
          have hin := convIn_in (p := P) (x := xk) (y := Y) (i := k) (j := s) (r := zs) (by omega) HZM.out (by rw [HZL.out]; have := HZZ.out; omega)
          rw [← hrs.out, ← HQ.out] at hin
          obtain ⟨h2, hx0, hx1⟩ := hin
          have hzz := hown.out.cell q (by rw [List.length_map]; exact h2)
          rw [List.getElem_map] at hzz
          have hqZ : q < Z := by have := HQ.out; have := HZZ.out; omega
          have hat : (k : Int) + (s : Int) = (q : Int) := by have := HQ.out; omega
          obtain ⟨zq, HZQ⟩ : ∃ zq, Hid (zq = rs[q]) := ⟨_, Lib.hid rfl⟩
          obtain ⟨c, HCC⟩ : ∃ c, Hid (c = Y[s]) := ⟨_, Lib.hid rfl⟩
          rw [← HZQ.out] at hzz hx0 hx1
          rw [← HCC.out] at hyc hc0
          rw [← HXK.out] at hxc
          obtain ⟨u, HU⟩ : ∃ u, Hid (u = (zq + xk * c) % P) := ⟨_, Lib.hid rfl⟩
          have hmod : (zq + xk * c) % P = u := HU.out.symm
          have hfc : 0 ≤ xk * c ∧ xk * c ≤ 64 * 64 := ⟨Int.mul_nonneg hxk0.1 hc0.1, Int.mul_le_mul (by omega) (by omega) hc0.1 (by omega)⟩
          obtain ⟨hfc1, hfc2⟩ := hfc
          have HNX : Hid (rs.set q u = convIn P xk Y k (s + 1) zs) := Lib.hid (by
            have h3 : k + s < (convIn P xk Y k s zs).length := by rw [← hrs.out, ← HQ.out]; exact h2
            have h4 := convIn_step (p := P) (x := xk) (y := Y) (i := k) (j := s) (r := zs) (z := zq) (c := c) (u := u) h3 (by rw [HZQ.out]; simp only [← hrs.out, ← HQ.out]) hsY HCC.out HU.out
            rw [h4, ← hrs.out, ← HQ.out])
          have hf1 := hown.out.frozen q
          obtain ⟨hs1, hs2⟩ := hown.out.stored q (.int .i64 u)
          have HS : Hid (Own (wr.setCell ⟨w2.heap.size, q, none⟩ (.int .i64 u)) w2.heap.size (.slice (some ⟨w2.heap.size, 0, none⟩) Z Z) (rs.set q u)) := Lib.hid (by
            unfold Own; rw [List.map_set]; exact hs1)
          have HE : Hid (Ext w2 (wr.setCell ⟨w2.heap.size, q, none⟩ (.int .i64 u))) := Lib.hid (ext_app (e := 2) (v := .slice (some ⟨w2.heap.size, 0, none⟩) Z Z) hext.out hown.out hs2)
          have hb2w : b ≠ w2.heap.size := by have := HF2.out.1; omega
          clear hs1 hs2 hown hext hrs
          go_wp2
          go_region
          go_wp2
          exact ⟨⟨s + 1, _, by omega, by go_num, HNX, Lib.hid (OwnV.drawn HS.out ⟨1, rfl⟩), Lib.hid (Ext.drawn HE.out ⟨1, rfl⟩)⟩, by simp only [intOf]; omega⟩
        · obtain rfl : s = d := by omega
          have HYS : Hid (rs = convTo P X Y (List.replicate Z 0) (k + 1)) := Lib.hid (by rw [hrs.out, HST.out])
          clear hrs
          go_wp2
          exact ⟨⟨k + 1, rs, by omega, by go_num, HYS, hown, hext⟩, by simp only [intOf]; omega⟩
    · obtain rfl : k = d := by omega
      have HFIN : Hid (R = numL P (remL P (cs ++ [1]) zs)) := Lib.hid (by
        rw [HR.out, mulN, HCS.out, ← HX.out, ← HY.out, hzs.out, mulL_short (by omega) cs X Y (by rw [HCS.out]; omega) (by rw [HXL.out, HCS.out]) (by rw [HYL.out, HCS.out]), HXL.out, HCS.out, HZZ.out])
      have HE4 := Lib.hid (HE2.out.trans hext.out)
      obtain ⟨hb0, e0, e1, e2⟩ := HF.out.ext HE4.out
      have HRZ := Lib.hid hown.out.rd
      have HRP := Lib.hid (HRD.out.ext HE4.out)
      have hZ12 : zs.length ≤ 12 := by rw [HZL.out]; have := HZZ.out; omega
      have HZ12 := Lib.hid hZ12
      have HRL : Hid ((remL P (cs ++ [1]) zs).length ≤ 6) := Lib.hid (by rw [remL_len, List.length_append, HCS.out]; simp; omega)
      have HF3 := Lib.hid (HF.out.ext HE4.out)
      clear hzs hown hext hZ12
      go_wp2
      go_region_held3 (fun w' => Ext wr w' ∧ w'.cell? ⟨b, 0, none⟩ = some (.int .i64 P) ∧ w'.cell? ⟨b, 2, none⟩ = some v) (first | exact ⟨Ext.drewN (Ext.refl _) 1, e0, e2⟩ | exact ⟨hextK, (HF3.out.ext hextK).2.1, (HF3.out.ext hextK).2.2.2⟩)
        (first | (go_at_call 91; refine (s_rem _ _ zs (cs ++ [1]) P _ (HRZ.out.ext (Ext.drewN (Ext.refl _) 1)) (.inr ⟨_, _, _, rfl⟩) (HRP.out.ext (Ext.drewN (Ext.refl _) 1)) p1 p2 HZM.out (snoc_mod p1 HCM.out) HZ12.out (by simp) (by rw [List.length_append, HCS.out]; simp; omega)).mono ?_; rintro e w5 ⟨v5, rfl, hrd5, hext5⟩; have hextK := Ext.trans (Ext.drewN (Ext.refl wr) 1) hext5) | (go_at_call 87; refine (s_number _ _ P _ hrd5 p1 p2 (remL_mod (by omega) _ _ HZM.out) HRL.out).mono ?_; rintro e _ ⟨rfl, rfl⟩))
      rw [← HFIN.out]
      go_wp2
      go_ret
      exact ⟨rfl, HE4.out.trans hextK⟩
set_option maxRecDepth 100000 in
set_option maxHeartbeats 4000000 in
theorem i_mul (P : Int) (d : Nat) (v : Value) (cs : List Int) (x y : Int) (w : World) (hF : FldOk P d cs) (h : Rd w v (cs ++ [1])) (hx : 0 ≤ x) (hx2 : x ≤ 1000000) (hy : 0 ≤ y) (hy2 : y ≤ 1000000) :
    Calls Try.prog 69 #[.agg #[.int .i64 P, .int .i64 d, v], .int .i64 x, .int .i64 y] w fun e w' => e = .returned (.int .i64 (mulN P cs x y)) ∧ Ext w w' := by
  have HRD := Lib.hid h
  have HF := Lib.hid (FldAt.new w P d v 27)
  have HE0 := Lib.hid (ext_alloc w (.cells #[.int .i64 P, .int .i64 d, v] 27))
  obtain ⟨p1, p2, d1, d2, hcs, hcm⟩ := hF
  have HCS := Lib.hid hcs
  have HCM := Lib.hid hcm
  obtain ⟨X, HX⟩ : ∃ X, Hid (X = digL P d x) := ⟨_, Lib.hid rfl⟩
  obtain ⟨Y, HY⟩ : ∃ Y, Hid (Y = digL P d y) := ⟨_, Lib.hid rfl⟩
  obtain ⟨R, HR⟩ : ∃ R, Hid (R = mulN P cs x y) := ⟨_, Lib.hid rfl⟩
  obtain ⟨Z, HZZ⟩ : ∃ Z, Hid (Z = 2 * d) := ⟨_, Lib.hid rfl⟩
  have hZ : 2 * (d : Int) = (Z : Int) := by have := HZZ.out; omega
  have hZ2 : Z ≤ 12 := by have := HZZ.out; omega
  have HXL : Hid (X.length = d) := Lib.hid (by rw [HX.out, digL_len])
  have HYL : Hid (Y.length = d) := Lib.hid (by rw [HY.out, digL_len])
  have HXM : Hid (InMod P X) := Lib.hid (by rw [HX.out]; exact digL_mod (by omega) _ _)
  have HYM : Hid (InMod P Y) := Lib.hid (by rw [HY.out]; exact digL_mod (by omega) _ _)
  rw [← HR.out]
  clear h hcs hcm
  go_enter Try.func69, Try.ntmps69
  go_wp2
  generalize hw0 : w.alloc (.cells #[.int .i64 P, .int .i64 d, v] 27) = w0 at HF HE0 ⊢
  clear hw0
  obtain ⟨hb00, c0, c1, c2⟩ := HF.out
  go_region_held3 (fun w' => Ext w0 w' ∧ w'.cell? ⟨w.heap.size, 0, none⟩ = some (.int .i64 P) ∧ w'.cell? ⟨w.heap.size, 1, none⟩ = some (.int .i64 d)) (first | exact ⟨Ext.drewN (Ext.refl _) 1, c0, c1⟩ | exact ⟨hextK2, (HF.out.ext hextK2).2.1, (HF.out.ext hextK2).2.2.1⟩ | exact ⟨hextK, (HF.out.ext hextK).2.1, (HF.out.ext hextK).2.2.1⟩)
    (first | (go_at_call 61; (with_reducible refine (i_digits x P d _ p1 p2 hx hx2 (by omega)).mono ?_); rintro e w1 ⟨v1, rfl, hown1, hext1⟩; have hextK := Ext.trans (Ext.drewN (Ext.refl w0) 1) hext1) | (go_at_call 61; (with_reducible refine (i_digits y P d _ p1 p2 hy hy2 (by omega)).mono ?_); rintro e w2 ⟨v2, rfl, hown2, hext2⟩; have hextK2 := Ext.trans hextK hext2))
  have HE2 := Lib.hid hextK2
  have HO1' : Hid (Own w2 w0.heap.size v1 X) := Lib.hid (by rw [HX.out]; exact OwnV.ext hown1 hext2)
  have HO2 : Hid (Own w2 w1.heap.size v2 Y) := Lib.hid (by rw [HY.out]; exact hown2)
  have HF2 := Lib.hid (HF.out.ext HE2.out)
  clear hextK hextK2 hown1 hown2 hext1 hext2 c0 c1 c2
  obtain ⟨_, c0, c1, c2⟩ := HF2.out
  obtain ⟨g1, cap1, rfl, hcg1, _, hg1⟩ := HO1'.out.head (by rw [List.length_map, HXL.out]; omega)
  obtain ⟨g2, cap2, rfl, hcg2, _, hg2⟩ := HO2.out.head (by rw [List.length_map, HYL.out]; omega)
  have hcap1 : cap1 ≤ 9223372036854775807 := by
    obtain ⟨_, _, h1, _, h3, _⟩ := HO1'.out.form
    cases h1; exact h3
  have hcap2 : cap2 ≤ 9223372036854775807 := by
    obtain ⟨_, _, h1, _, h3, _⟩ := HO2.out.form
    cases h1; exact h3
  have HCX : Hid (∀ k (h : k < X.length), w2.cell? ⟨g1, k, none⟩ = some (.int .i64 X[k])) := Lib.hid (fun k h => by
    have := HO1'.out.cell k (by rw [List.length_map]; exact h)
    rw [List.getElem_map] at this; exact this)
  have HCY : Hid (∀ k (h : k < Y.length), w2.cell? ⟨g2, k, none⟩ = some (.int .i64 Y[k])) := Lib.hid (fun k h => by
    have := HO2.out.cell k (by rw [List.length_map]; exact h)
    rw [List.getElem_map] at this; exact this)
  rw [List.length_map, HXL.out] at hcg1 ⊢
  rw [List.length_map, HYL.out] at hcg2 ⊢
  go_wp2_with (at_make; refine wp_make _ rfl _ _ rfl w2.heap.size .i64 .i64 _ _ Z rfl rfl rfl rfl (by omega) (Nat.le_refl _) ?_; intro w3 hown3 hext3)
  have HO3 := Lib.hid hown3
  have HE3 := Lib.hid hext3
  clear hown3 hext3 c0 c1 c2
  go_loopw [30] (fun i wr => ∃ (k : Nat) (zs : List Int), k ≤ d ∧ i = .int .i64 k ∧ Hid (zs = convTo P X Y (List.replicate Z 0) k) ∧ Hid (Own wr w2.heap.size (.slice (some ⟨w2.heap.size, 0, none⟩) Z Z) zs) ∧ Hid (Ext w2 wr)) (fun i _ => d - (intOf i).toNat)
  case atStart => exact ⟨0, List.replicate Z 0, by omega, rfl, Lib.hid rfl, HO3, HE3⟩
  case round =>
    obtain ⟨k, zs, hk, rfl, hzs, hown, hext⟩ := hrel
    have hzl : zs.length = Z := by rw [hzs.out, convTo_len, List.length_replicate]
    have hzm : InMod P zs := by rw [hzs.out]; exact convTo_mod (by omega) _ _ _ (InMod_repl (by omega) _) _
    have HZL := Lib.hid hzl
    have HZM := Lib.hid hzm
    clear hzl hzm
    by_cases hlt : k < d
    · have hkX : k < X.length := by rw [HXL.out]; exact hlt
      have hxk0 := HXM.out _ (List.getElem_mem hkX)
      obtain ⟨xk, HXK⟩ : ∃ xk, Hid (xk = X[k]) := ⟨_, Lib.hid rfl⟩
      rw [← HXK.out] at hxk0
      have HST : Hid (convTo P X Y (List.replicate Z 0) (k + 1) = convIn P xk Y k d zs) := Lib.hid (by rw [convTo, ← hzs.out, getD_get _ _ hkX, ← HXK.out, HYL.out])
      clear hzs
      go_wp2
      go_loopw [35] (fun j wr => ∃ (s : Nat) (rs : List Int), s ≤ d ∧ j = .int .i64 s ∧ Hid (rs = convIn P xk Y k s zs) ∧ Hid (Own wr w2.heap.size (.slice (some ⟨w2.heap.size, 0, none⟩) Z Z) rs) ∧ Hid (Ext w2 wr)) (fun j _ => d - (intOf j).toNat)
      case atStart => exact ⟨0, zs, by omega, rfl, Lib.hid rfl, hown, hext⟩
      case round =>
        clear hown hext
        obtain ⟨s, rs, hs, rfl, hrs, hown, hext⟩ := hrel
        by_cases hlt2 : s < d
        · have hsY : s < Y.length := by rw [HYL.out]; exact hlt2
          have hc0 := HYM.out _ (List.getElem_mem hsY)
          have hxc := (hext.out.cell (p := ⟨g1, k, none⟩) hg1).trans (HCX.out k hkX)
          have hyc := (hext.out.cell (p := ⟨g2, s, none⟩) hg2).trans (HCY.out s hsY)
          obtain ⟨hb0, e0, e1, e2⟩ := HF2.out.ext hext.out
          obtain ⟨q, HQ⟩ : ∃ q, Hid (q = k + s) := ⟨_, Lib.hid rfl⟩
          have hin := convIn_in (p := P) (x := xk) (y := Y) (i := k) (j := s) (r := zs) (by omega) HZM.out (by rw [HZL.out]; have := HZZ.out; omega)
          rw [← hrs.out, ← HQ.out] at hin
          obtain ⟨h2, hx0, hx1⟩ := hin
          have hzz := hown.out.cell q (by rw [List.length_map]; exact h2)
          rw [List.getElem_map] at hzz
          have hqZ : q < Z := by have := HQ.out; have := HZZ.out; omega
          have hat : (k : Int) + (s : Int) = (q : Int) := by have := HQ.out; omega
          obtain ⟨zq, HZQ⟩ : ∃ zq, Hid (zq = rs[q]) := ⟨_, Lib.hid rfl⟩
          obtain ⟨c, HCC⟩ : ∃ c, Hid (c = Y[s]) := ⟨_, Lib.hid rfl⟩
          rw [← HZQ.out] at hzz hx0 hx1
          rw [← HCC.out] at hyc hc0
          rw [← HXK.out] at hxc
          obtain ⟨u, HU⟩ : ∃ u, Hid (u = (zq + xk * c) % P) := ⟨_, Lib.hid rfl⟩
          have hmod : (zq + xk * c) % P = u := HU.out.symm
          have hfc : 0 ≤ xk * c ∧ xk * c ≤ 64 * 64 := ⟨Int.mul_nonneg hxk0.1 hc0.1, Int.mul_le_mul (by omega) (by omega) hc0.1 (by omega)⟩
          obtain ⟨hfc1, hfc2⟩ := hfc
          have HNX : Hid (rs.set q u = convIn P xk Y k (s + 1) zs) := Lib.hid (by
            have h3 : k + s < (convIn P xk Y k s zs).length := by rw [← hrs.out, ← HQ.out]; exact h2
            have h4 := convIn_step (p := P) (x := xk) (y := Y) (i := k) (j := s) (r := zs) (z := zq) (c := c) (u := u) h3 (by rw [HZQ.out]; simp only [← hrs.out, ← HQ.out]) hsY HCC.out HU.out
            rw [h4, ← hrs.out, ← HQ.out])
          have hf1 := hown.out.frozen q
          obtain ⟨hs1, hs2⟩ := hown.out.stored q (.int .i64 u)
          have HS : Hid (Own (wr.setCell ⟨w2.heap.size, q, none⟩ (.int .i64 u)) w2.heap.size (.slice (some ⟨w2.heap.size, 0, none⟩) Z Z) (rs.set q u)) := Lib.hid (by
            unfold Own; rw [List.map_set]; exact hs1)
          have HE : Hid (Ext w2 (wr.setCell ⟨w2.heap.size, q, none⟩ (.int .i64 u))) := Lib.hid (ext_app (e := 2) (v := .slice (some ⟨w2.heap.size, 0, none⟩) Z Z) hext.out hown.out hs2)
          have hb2w : w.heap.size ≠ w2.heap.size := by have := HF2.out.1; omega
          clear hs1 hs2 hown hext hrs
          go_wp2
          go_region
          go_wp2
          exact ⟨⟨s + 1, _, by omega, by go_num, HNX, Lib.hid (OwnV.drawn HS.out ⟨1, rfl⟩), Lib.hid (Ext.drawn HE.out ⟨1, rfl⟩)⟩, by simp only [intOf]; omega⟩
        · obtain rfl : s = d := by omega
          have HYS : Hid (rs = convTo P X Y (List.replicate Z 0) (k + 1)) := Lib.hid (by rw [hrs.out, HST.out])
          clear hrs
          go_wp2
          exact ⟨⟨k + 1, rs, by omega, by go_num, HYS, hown, hext⟩, by simp only [intOf]; omega⟩
    · obtain rfl : k = d := by omega
      have HFIN : Hid (R = numL P (remL P (cs ++ [1]) zs)) := Lib.hid (by
        rw [HR.out, mulN, HCS.out, ← HX.out, ← HY.out, hzs.out, mulL_long cs X Y, HXL.out, HCS.out, HZZ.out])
      have HE4 := Lib.hid (HE2.out.trans hext.out)
      have HE5 := Lib.hid (HE0.out.trans HE4.out)
      obtain ⟨hb0, e0, e1, e2⟩ := HF.out.ext HE4.out
      have HRZ := Lib.hid hown.out.rd
      have HRP := Lib.hid (HRD.out.ext HE5.out)
      have hZ12 : zs.length ≤ 12 := by rw [HZL.out]; have := HZZ.out; omega
      have HZ12 := Lib.hid hZ12
      have HRL : Hid ((remL P (cs ++ [1]) zs).length ≤ 6) := Lib.hid (by rw [remL_len, List.length_append, HCS.out]; simp; omega)
      have HF3 := Lib.hid (HF.out.ext HE4.out)
      clear hzs hown hext hZ12
      go_wp2
      go_region_held3 (fun w' => Ext wr w' ∧ w'.cell? ⟨w.heap.size, 0, none⟩ = some (.int .i64 P) ∧ w'.cell? ⟨w.heap.size, 2, none⟩ = some v) (first | exact ⟨Ext.drewN (Ext.refl _) 1, e0, e2⟩ | exact ⟨hextK, (HF3.out.ext hextK).2.1, (HF3.out.ext hextK).2.2.2⟩)
        (first | (go_at_call 85; refine (i_rem _ _ zs (cs ++ [1]) P _ (HRZ.out.ext (Ext.drewN (Ext.refl _) 1)) (HRP.out.ext (Ext.drewN (Ext.refl _) 1)) p1 p2 HZM.out (snoc_mod p1 HCM.out) HZ12.out (by simp) (by rw [List.length_append, HCS.out]; simp; omega)).mono ?_; rintro e w5 ⟨v5, rfl, hrd5, hext5⟩; have hextK := Ext.trans (Ext.drewN (Ext.refl wr) 1) hext5) | (go_at_call 90; refine (i_number _ _ P _ hrd5 p1 p2 (remL_mod (by omega) _ _ HZM.out) HRL.out).mono ?_; rintro e _ ⟨rfl, rfl⟩))
      rw [← HFIN.out]
      go_wp2
      go_ret
      exact ⟨rfl, HE5.out.trans hextK⟩
end Go.Proofs.Ytafaecpmffmfgaa
