/- CycleType: the walks of the program and of the reference, and the law. No condition. -/
import Derived.Test.YtloacmfafccofaaCycLaw
import Derived.Test.YtloacmfafccofaaDnLay
import Derived.Test.YtloacmfafccofaaSize
namespace Go.Proofs.Ytloacmfafccofaa
open Go.RowKit

def dnMid (xs : List Int) (i : Nat) (ys : List Int) : Prop := ys.Perm xs ∧ ∀ a b, a < i → a < b → b < ys.length → ys.getD b 0 ≤ ys.getD a 0
def dnIn (xs : List Int) (i j : Nat) (ys : List Int) : Prop := dnMid xs i ys ∧ i < j ∧ ∀ b, i < b → b < j → b < ys.length → ys.getD b 0 ≤ ys.getD i 0
theorem dnMid_start (xs : List Int) : dnMid xs 0 xs := ⟨List.Perm.refl _, fun a b h => by omega⟩
theorem dnIn_start {xs ys : List Int} {i : Nat} (h : dnMid xs i ys) : dnIn xs i (i + 1) ys := ⟨h, by omega, fun b h1 h2 => by omega⟩
theorem dnIn_end {xs ys : List Int} {i j : Nat} (h : dnIn xs i j ys) (hj : ¬ j < ys.length) : dnMid xs (i + 1) ys := by
  obtain ⟨⟨h1, h2⟩, h3, h4⟩ := h
  refine ⟨h1, fun a b ha hb hl => ?_⟩
  by_cases e : a = i
  · subst e; exact h4 b hb (by omega) hl
  · exact h2 a b (by omega) hb hl
theorem dnIn_keep {xs ys : List Int} {i j : Nat} (h : dnIn xs i j ys) (hj : j < ys.length) (hle : ys.getD j 0 ≤ ys.getD i 0) : dnIn xs i (j + 1) ys := by
  obtain ⟨h1, h3, h4⟩ := h
  refine ⟨h1, by omega, fun b h5 h6 h7 => ?_⟩
  by_cases e : b = j
  · subst e; exact hle
  · exact h4 b h5 (by omega) h7
theorem getD_set {l : List Int} {i b : Nat} {x : Int} (hb : b < l.length) : (l.set i x).getD b 0 = if i = b then x else l.getD b 0 := by
  rw [List.getD_eq_getElem?_getD, List.getElem?_set, List.getD_eq_getElem?_getD]
  split
  · rename_i e; subst e; simp [hb]
  · rfl
theorem dnIn_swap {xs ys : List Int} {i j : Nat} (h : dnIn xs i j ys) (hj : j < ys.length) (hi : i < ys.length) (hgt : ys[i] < ys[j]) : dnIn xs i (j + 1) ((ys.set i ys[j]).set j ys[i]) := by
  obtain ⟨⟨h1, h2⟩, h3, h4⟩ := h
  have gi : ys.getD i 0 = ys[i] := by simp [hi]
  have gj : ys.getD j 0 = ys[j] := by simp [hj]
  have G : ∀ b, b < ys.length → ((ys.set i ys[j]).set j ys[i]).getD b 0 = if j = b then ys[i] else if i = b then ys[j] else ys.getD b 0 := by
    intro b hb
    rw [getD_set (by simpa using hb), getD_set hb]
  refine ⟨⟨(List.set_set_perm hi hj).trans h1, fun a b ha hb hl => ?_⟩, by omega, fun b h5 h6 h7 => ?_⟩
  · have hl' : b < ys.length := by simpa using hl
    rw [G b hl', G a (by omega), if_neg (show ¬ j = a by omega), if_neg (show ¬ i = a by omega)]
    split
    · rw [← gi]; exact h2 a i ha (by omega) hi
    · split
      · rw [← gj]; exact h2 a j ha (by omega) hj
      · exact h2 a b ha hb hl'
  · have hl' : b < ys.length := by simpa using h7
    rw [G b hl', G i hi, if_neg (show ¬ j = i by omega), if_pos rfl]
    split
    · omega
    · rw [if_neg (show ¬ i = b by omega)]
      have := h4 b h5 (by omega) hl'
      omega
theorem dnMid_end {xs ys : List Int} {i : Nat} (h : dnMid xs i ys) (hi : ys.length ≤ i) : ys = dn xs := by
  refine dn_of h.1 ?_
  rw [List.pairwise_iff_getElem]
  intro a b ha hb hab
  have := h.2 a b (by omega) hab hb
  rw [List.getD_eq_getElem?_getD, List.getD_eq_getElem?_getD, List.getElem?_eq_getElem ha, List.getElem?_eq_getElem hb] at this
  exact this
set_option maxRecDepth 100000 in
theorem s_down (v : Value) (xs : List Int) (w : World) (hn : xs.length ≤ 1000000) (h : Rd w v xs) (hsn : Sane v) : Calls Try.prog 64 #[v] w (RetInts w (dn xs)) := by
  obtain ⟨N, HN⟩ : ∃ N, Hid (N = xs.length) := ⟨_, Lib.hid rfl⟩
  have hN : N ≤ 1000000 := by rw [HN.out]; exact hn
  have HS0 := Lib.hid (dnMid_start xs)
  go_enter Try.func64, Try.ntmps64
  go_wp2_with fail
  refine (s_l00Own _ xs _ (by omega) h hsn).mono ?_
  rintro e w1 ⟨v1, rfl, hown1, hext1⟩
  obtain ⟨A, cap, hv1, hca, hcm, hcg, _⟩ := hown1.form
  rw [List.length_map, ← HN.out] at hv1 hca
  subst hv1
  unfold maxLen at hcm
  have HCG := Lib.hid hcg
  have HOW := Lib.hid hown1
  have HEX := Lib.hid hext1
  clear hown1 hext1 hcg hn h hsn
  go_wp2
  go_loopw [4] (fun i wr => ∃ (k : Nat) (ys : List Int), k ≤ N ∧ i = .int .i64 k ∧ Hid (dnMid xs k ys) ∧ Hid (Own wr w.heap.size (.slice A N cap) ys) ∧ Hid (Ext w wr)) (fun i _ => N - (intOf i).toNat)
  case atStart => exact ⟨0, xs, by omega, rfl, HS0, HOW, HEX⟩
  case round =>
    obtain ⟨k, ys, hk, rfl, hmid, hown, hext⟩ := hrel
    by_cases hlt : k < N
    · obtain ⟨g, rfl, hg1, hg2⟩ := HCG.out (by omega)
      have HI0 := Lib.hid (dnIn_start hmid.out)
      clear hmid
      go_wp2
      go_loopw [5] (fun j wr => ∃ (s : Nat) (rs : List Int), s ≤ N ∧ j = .int .i64 s ∧ Hid (dnIn xs k s rs) ∧ Hid (Own wr w.heap.size (.slice (some ⟨g, 0, none⟩) N cap) rs) ∧ Hid (Ext w wr)) (fun j _ => N - (intOf j).toNat)
      case atStart => exact ⟨k + 1, ys, by omega, by go_num, HI0, hown, hext⟩
      case round =>
        clear hown hext HI0
        obtain ⟨s, rs, hs, rfl, hin, hown, hext⟩ := hrel
        have hrl : rs.length = N := by rw [HN.out]; exact hin.out.1.1.length_eq
        have hks : k < s := hin.out.2.1
        by_cases hlt2 : s < N
        · have h1 : k < rs.length := by omega
          have h2 : s < rs.length := by omega
          have hc1 := hown.out.cell k (by rw [List.length_map]; exact h1)
          have hc2 := hown.out.cell s (by rw [List.length_map]; exact h2)
          rw [List.getElem_map] at hc1 hc2
          by_cases hgt : rs[k] < rs[s]
          · have HN2 := Lib.hid (dnIn_swap hin.out h2 h1 hgt)
            obtain ⟨x, HXX⟩ : ∃ x, Hid (x = rs[k]) := ⟨_, Lib.hid rfl⟩
            obtain ⟨y, HYY⟩ : ∃ y, Hid (y = rs[s]) := ⟨_, Lib.hid rfl⟩
            rw [← HXX.out] at hc1 hgt HN2
            rw [← HYY.out] at hc2 hgt HN2
            have hf1 := hown.out.frozen k
            have hf2 := hown.out.frozen s
            have HS : Hid (∀ n, Own (((wr.drewN n).setCell ⟨g, k, none⟩ (.int .i64 y)).setCell ⟨g, s, none⟩ (.int .i64 x)) w.heap.size (.slice (some ⟨g, 0, none⟩) N cap) ((rs.set k y).set s x)) := Lib.hid (fun n => by
              have o1 := (OwnV.stored (hown.out.ext (Ext.drewN (Ext.refl _) n)) k (.int .i64 y)).1
              have o2 := (OwnV.stored o1 s (.int .i64 x)).1
              unfold Own; rw [List.map_set, List.map_set]; exact o2)
            have HE : Hid (∀ n, Ext w (((wr.drewN n).setCell ⟨g, k, none⟩ (.int .i64 y)).setCell ⟨g, s, none⟩ (.int .i64 x))) := Lib.hid (fun n => by
              obtain ⟨o1, g1⟩ := OwnV.stored (hown.out.ext (Ext.drewN (Ext.refl _) n)) k (.int .i64 y)
              obtain ⟨o2, g2⟩ := OwnV.stored o1 s (.int .i64 x)
              have e1 : Ext w ((wr.drewN n).setCell ⟨g, k, none⟩ (.int .i64 y)) := ext_app (e := 2) (v := .slice (some ⟨g, 0, none⟩) N cap) (hext.out.drewN n) (hown.out.ext (Ext.drewN (Ext.refl _) n)) g1
              exact Below.grown e1 g2 e1.size (fun j hj => by injection hj with hj; omega))
            clear HXX HYY
            clear hin hrl h1 h2 hown hext
            go_wp2
            go_quiet (fail)
            go_wp2
            exact ⟨⟨s + 1, _, by omega, by go_num, HN2, Lib.hid (HS.out _), Lib.hid (HE.out _)⟩, by simp only [intOf]; omega⟩
          · have HN2 := Lib.hid (dnIn_keep hin.out h2 (by simp [h1, h2]; omega))
            generalize rs[k] = x at *
            generalize rs[s] = y at *
            clear hin hrl h1 h2
            go_wp2
            go_quiet (fail)
            go_wp2
            exact ⟨⟨s + 1, rs, by omega, by go_num, HN2, Lib.hid (hown.out.ext (Ext.drewN (Ext.refl _) _)), Lib.hid (hext.out.drewN _)⟩, by simp only [intOf]; omega⟩
        · obtain rfl : s = N := by omega
          have HM2 := Lib.hid (dnIn_end hin.out (by omega))
          clear hin
          go_wp2
          exact ⟨⟨k + 1, rs, by omega, by go_num, HM2, hown, hext⟩, by simp only [intOf]; omega⟩
    · obtain rfl : k = N := by omega
      have HE : Hid (ys = dn xs) := Lib.hid (dnMid_end hmid.out (by rw [HN.out, hmid.out.1.length_eq]; exact Nat.le_refl _))
      clear hmid
      go_wp2
      go_ret
      exact ⟨_, rfl, by rw [← HE.out]; exact hown.out, hext.out⟩
def ctOut (xs : List Int) : List Int := dn ((cycOut xs).map fun c => (c.length : Int))
theorem sumLen_mem : ∀ {l : List (List Int)} {c : List Int}, c ∈ l → c.length ≤ sumLen l
  | d :: r, c, h => by
    rw [sumLen]
    rcases List.mem_cons.1 h with e | h
    · subst e; omega
    · have := sumLen_mem h; omega
theorem cycOut_count (xs : List Int) : (cycOut xs).length ≤ 32 := by
  unfold cycOut
  cases hv : validP xs
  · simp
  · obtain ⟨ns, hxs, hp⟩ := isP_of_valid hv
    rw [if_pos rfl, hxs, casN_toNat, List.length_map]
    exact (isP_len hp).1
theorem lens_bd (xs : List Int) : ∀ x ∈ (cycOut xs).map (fun c => (c.length : Int)), 0 ≤ x ∧ x < 64 := by
  intro x hx
  obtain ⟨c, hc, rfl⟩ := List.mem_map.1 hx
  have h1 := sumLen_mem hc
  have h2 := cycOut_sum xs
  omega
set_option maxRecDepth 100000 in
theorem i_CycleType (v : Value) (xs : List Int) (w : World) (h : Rd w v xs) (hn : xs.length ≤ 100000000) : Calls Try.prog 33 #[v] w (RetInts w (ctOut xs)) := by
  have HRD := Lib.hid h
  clear h
  go_enter Try.func33, Try.ntmps33
  go_wp2_with fail
  refine (i_CyclesOf _ xs _ HRD.out hn).mono ?_
  rintro e w2 ⟨v2, rfl, hL, hext⟩
  obtain ⟨av, capv, hve, hve1, hve2, hcells⟩ := hL.form
  have HC := Lib.hid hcells
  have HX := Lib.hid hext
  subst hve
  obtain ⟨S, HS⟩ : ∃ S, Hid (S = cycOut xs) := ⟨_, Lib.hid rfl⟩
  have HSM : Hid (sumLen S ≤ 32) := Lib.hid (by rw [HS.out]; exact cycOut_sum xs)
  rw [← HS.out] at hve1 HC ⊢
  obtain ⟨L, HL⟩ : ∃ L, Hid (L = S.length) := ⟨_, Lib.hid rfl⟩
  rw [← HL.out] at hve1 ⊢
  have HB := Lib.hid (lens_bd xs)
  have HOUT : Hid (ctOut xs = dn (S.map fun c => (c.length : Int))) := Lib.hid (by rw [HS.out]; rfl)
  clear hL hext hcells
  go_wp2
  go_loopw [3, 9] (fun v i wr => ∃ k : Nat, k ≤ L ∧ i = .int .i64 k ∧ Hid (Own wr w2.heap.size v ((S.take k).map fun c => (c.length : Int))) ∧ Hid (Ext w2 wr)) (fun _ i _ => L - (intOf i).toNat)
  case atStart => exact ⟨0, by omega, rfl, Lib.hid (OwnV.nil _ _ _), Lib.hid (Ext.refl _)⟩
  case round =>
    obtain ⟨k, hk, rfl, hown, hext⟩ := hrel
    by_cases hlt : k < L
    · have hk' : k < S.length := by rw [← HL.out]; exact hlt
      obtain ⟨g, rfl, hg0, hg1, hall⟩ := HC.out (by omega)
      obtain ⟨b, n, c, hcell0, hown0, hnl, hc2⟩ := hall k hk'
      have hcell := (hext.out.cell (p := ⟨g, k, none⟩) hg1).trans hcell0
      have hn32 : n ≤ 32 := by rw [hnl]; exact Nat.le_trans (sumLen_mem (List.getElem_mem hk')) HSM.out
      have HT : Hid (((S.take (k + 1)).map fun c => (c.length : Int)) = ((S.take k).map fun c => (c.length : Int)) ++ [(n : Int)]) := Lib.hid (by
        rw [List.take_succ_eq_append_getElem hk', List.map_append, hnl]; rfl)
      have hz := hext.out.size
      have hlen : ((S.take k).map fun c => (c.length : Int)).length ≤ 1000000 := by
        have : S.length ≤ 32 := by rw [HS.out]; exact cycOut_count xs
        rw [List.length_map, List.length_take]; omega
      clear hall hnl hown0 hcell0
      go_wp2_with (first | (go_at_call 51; refine (i_size _ _ _ _ (by omega)).mono ?_; rintro e w' ⟨rfl, rfl⟩) | (at_builtin; refine wp_app1 _ rfl _ _ rfl _ _ _ rfl hown.out (n : Int) rfl (by omega) hz ?_; intro v' w' hown2 hgr))
      have HO2 : Hid (Own w' w2.heap.size v' ((S.take (k + 1)).map fun c => (c.length : Int))) := Lib.hid (by rw [HT.out]; exact hown2)
      have HE2 : Hid (Ext w2 w') := Lib.hid (ext_app hext.out hown.out hgr)
      exact ⟨⟨k + 1, by omega, by go_num, HO2, HE2⟩, by simp only [intOf]; omega⟩
    · obtain rfl : k = L := by omega
      have HO2 := Lib.hid (show Own _ _ _ (S.map fun c => (c.length : Int)) by have := hown.out; rw [List.take_of_length_le (by rw [← HL.out]; omega)] at this; exact this)
      have HB2 : Hid (∀ x ∈ S.map (fun c => (c.length : Int)), 0 ≤ x ∧ x < 64) := Lib.hid (by rw [HS.out]; exact HB.out)
      have HCN : Hid (S.length ≤ 32) := Lib.hid (by rw [HS.out]; exact cycOut_count xs)
      clear hown
      go_wp2_with fail
      refine (c_SortD _ _ _ _ (by have := HCN.out; rw [List.length_map]; omega) HB2.out HO2.out).mono ?_
      rintro e w5 ⟨rfl, hown5, hgr5⟩
      have HE5 : Hid (Ext w2 w5) := Lib.hid (ext_app hext.out HO2.out hgr5)
      go_wp2
      go_ret
      exact ⟨_, rfl, by rw [HOUT.out]; exact hown5.mono HX.out.size, HX.out.trans HE5.out⟩
set_option maxRecDepth 100000 in
theorem s_CycleType (v : Value) (xs : List Int) (w : World) (h : Rd w v xs) (hn : xs.length ≤ 100000000) : Calls Try.prog 32 #[v] w (RetInts w (ctOut xs)) := by
  have HRD := Lib.hid h
  clear h
  go_enter Try.func32, Try.ntmps32
  go_wp2_with fail
  refine (s_CyclesOf _ xs _ HRD.out hn).mono ?_
  rintro e w2 ⟨v2, rfl, hL, hext⟩
  obtain ⟨av, capv, hve, hve1, hve2, hcells⟩ := hL.form
  have HC := Lib.hid hcells
  have HX := Lib.hid hext
  subst hve
  obtain ⟨S, HS⟩ : ∃ S, Hid (S = cycOut xs) := ⟨_, Lib.hid rfl⟩
  have HSM : Hid (sumLen S ≤ 32) := Lib.hid (by rw [HS.out]; exact cycOut_sum xs)
  rw [← HS.out] at hve1 HC ⊢
  obtain ⟨L, HL⟩ : ∃ L, Hid (L = S.length) := ⟨_, Lib.hid rfl⟩
  rw [← HL.out] at hve1 ⊢
  have HCN : Hid (S.length ≤ 32) := Lib.hid (by rw [HS.out]; exact cycOut_count xs)
  have HOUT : Hid (ctOut xs = dn (S.map fun c => (c.length : Int))) := Lib.hid (by rw [HS.out]; rfl)
  clear hL hext hcells
  go_wp2
  go_loopw [4, 5] (fun v i wr => ∃ k : Nat, k ≤ L ∧ i = .int .i64 k ∧ Hid (Own wr w2.heap.size v ((S.take k).map fun c => (c.length : Int))) ∧ Hid (Ext w2 wr)) (fun _ i _ => L - (intOf i).toNat)
  case atStart => exact ⟨0, by omega, rfl, Lib.hid (OwnV.empty _ _), Lib.hid (ext_alloc _ _)⟩
  case round =>
    obtain ⟨k, hk, rfl, hown, hext⟩ := hrel
    by_cases hlt : k < L
    · have hk' : k < S.length := by rw [← HL.out]; exact hlt
      obtain ⟨g, rfl, hg0, hg1, hall⟩ := HC.out (by omega)
      obtain ⟨b, n, c, hcell0, hown0, hnl, hc2⟩ := hall k hk'
      have hcell := (hext.out.cell (p := ⟨g, k, none⟩) hg1).trans hcell0
      have hn32 : n ≤ 32 := by rw [hnl]; exact Nat.le_trans (sumLen_mem (List.getElem_mem hk')) HSM.out
      have HT : Hid (((S.take (k + 1)).map fun c => (c.length : Int)) = ((S.take k).map fun c => (c.length : Int)) ++ [(n : Int)]) := Lib.hid (by
        rw [List.take_succ_eq_append_getElem hk', List.map_append, hnl]; rfl)
      have hz := hext.out.size
      have hlen : ((S.take k).map fun c => (c.length : Int)).length ≤ 1000000 := by
        have := HCN.out
        rw [List.length_map, List.length_take]; omega
      clear hall hnl hown0 hcell0
      go_wp2_with (at_builtin; refine wp_app1 _ rfl _ _ rfl _ _ _ rfl hown.out (n : Int) rfl (by omega) hz ?_; intro v' w' hown2 hgr)
      have HO2 : Hid (Own w' w2.heap.size v' ((S.take (k + 1)).map fun c => (c.length : Int))) := Lib.hid (by rw [HT.out]; exact hown2)
      have HE2 : Hid (Ext w2 w') := Lib.hid (ext_app hext.out hown.out hgr)
      clear hown2 hgr hown hext
      go_wp2
      exact ⟨⟨k + 1, by omega, by go_num, HO2, HE2⟩, by simp only [intOf]; omega⟩
    · obtain rfl : k = L := by omega
      have HO2 := Lib.hid (show Own _ _ _ (S.map fun c => (c.length : Int)) by have := hown.out; rw [List.take_of_length_le (by rw [← HL.out]; omega)] at this; exact this)
      clear hown
      go_wp2_with fail
      refine (s_down _ _ _ (by have := HCN.out; rw [List.length_map]; omega) HO2.out.rd HO2.out.sane).mono ?_
      rintro e w5 ⟨v5, rfl, hown5, hext5⟩
      have HE5 : Hid (Ext w2 w5) := Lib.hid (hext.out.trans hext5)
      have HO5 : Hid (Own w5 w.heap.size v5 (ctOut xs)) := Lib.hid (by rw [HOUT.out]; exact hown5.mono (HX.out.trans hext.out).size)
      clear hown5 hext5
      go_wp2
      go_ret
      exact ⟨_, rfl, HO5.out, HX.out.trans HE5.out⟩
theorem ctOut_len (xs : List Int) : (ctOut xs).length ≤ 3000000 := by
  have := cycOut_count xs
  unfold ctOut
  rw [dn_len, List.length_map]; omega
theorem l_CycleType (w : World) (v0 : Value) (xs0 : List Int) (h0 : Rd w v0 xs0) :
    Calls Try.prog 9 #[v0] w fun e w' => e = .returned (.bool true) ∧ Ext w w' := by
  have r0_0 := h0
  obtain ⟨ad0, cap0, rfl, hc0, hm0, _⟩ := h0
  by_cases hl0 : 1048576 < xs0.length
  · go_enter Try.func9, Try.ntmps9
    go_wp2
    go_ret
    exact ⟨rfl, Ext.refl _⟩
  have hbd := Lib.hid (show (ctOut xs0).length ≤ 3000000 from ctOut_len xs0)
  obtain ⟨R, HR⟩ : ∃ R : List Int, Hid (R = ctOut xs0) := ⟨_, Lib.hid rfl⟩
  have hb : R.length ≤ 3000000 := by rw [HR.out]; exact hbd.out
  clear hbd
  have X0 : Ext w w := Ext.refl w
  go_enter Try.func9, Try.ntmps9
  go_wp2_with fail
  refine (l_toInt64S _ xs0 _ (by omega) r0_0).mono ?_
  rintro e w1 ⟨u_s0, rfl, s0_1, x1⟩
  have z1 := x1.size
  have X1 : Ext w w1 := X0.trans x1
  have r0_1 := r0_0.ext X1
  go_wp2_with fail
  refine (s_CycleType _ xs0 _ s0_1.rd (by omega)).mono ?_
  rintro e w2 ⟨u_wt, rfl, wt_2, x2⟩
  rw [← HR.out] at wt_2
  have z2 := x2.size
  have X2 : Ext w w2 := X1.trans x2
  have s0_2 := s0_1.ext x2
  have r0_2 := r0_0.ext X2
  go_wp2_with fail
  refine (l_toInt64S _ xs0 _ (by omega) r0_2).mono ?_
  rintro e w3 ⟨u_x0x, rfl, x0x_3, x3⟩
  have z3 := x3.size
  have X3 : Ext w w3 := X2.trans x3
  have s0_3 := s0_2.ext x3
  have wt_3 := wt_2.ext x3
  have r0_3 := r0_0.ext X3
  go_wp2_with fail
  refine (i_CycleType _ xs0 _ x0x_3.rd (by omega)).mono ?_
  rintro e w4 ⟨u_gt, rfl, gt_4, x4⟩
  rw [← HR.out] at gt_4
  have z4 := x4.size
  have X4 : Ext w w4 := X3.trans x4
  have s0_4 := s0_3.ext x4
  have wt_4 := wt_3.ext x4
  have x0x_4 := x0x_3.ext x4
  have r0_4 := r0_0.ext X4
  go_wp2_with fail
  refine (l_eqInt64S_t _ _ R _ gt_4.rd wt_4.rd).mono ?_
  rintro e w5 ⟨rfl, d5⟩
  have x5 := d5.ext
  have z5 := x5.size
  have X5 : Ext w w5 := X4.trans x5
  have s0_5 := s0_4.ext x5
  have wt_5 := wt_4.ext x5
  have x0x_5 := x0x_4.ext x5
  have gt_5 := gt_4.ext x5
  have r0_5 := r0_0.ext X5
  go_wp2_with fail
  refine (l_toInt64S _ xs0 _ (by omega) r0_5).mono ?_
  rintro e w6 ⟨u_t0, rfl, t0_6, x6⟩
  have z6 := x6.size
  have X6 : Ext w w6 := X5.trans x6
  have s0_6 := s0_5.ext x6
  have wt_6 := wt_5.ext x6
  have x0x_6 := x0x_5.ext x6
  have gt_6 := gt_5.ext x6
  have r0_6 := r0_0.ext X6
  go_wp2_with fail
  refine (l_eqInt64S_t _ _ xs0 _ x0x_6.rd t0_6.rd).mono ?_
  rintro e w7 ⟨rfl, d7⟩
  have x7 := d7.ext
  have z7 := x7.size
  have X7 : Ext w w7 := X6.trans x7
  have s0_7 := s0_6.ext x7
  have wt_7 := wt_6.ext x7
  have x0x_7 := x0x_6.ext x7
  have gt_7 := gt_6.ext x7
  have t0_7 := t0_6.ext x7
  have r0_7 := r0_0.ext X7
  go_wp2_with fail
  refine (l_markInt64S _ (1) xs0 _ _ (by omega) x0x_7).mono ?_
  rintro e w8 ⟨rfl, x0x_8, g8⟩
  have z8 := g8.size
  have X8 : Ext w w8 := Below.grown X7 g8 X7.size (fun j hj => Nat.le_trans (X2.size) (x0x_7.lt j hj).1)
  have s0_8 := s0_7.kept g8 (s0_1.apart x0x_7 (by omega))
  have wt_8 := wt_7.kept g8 (wt_2.apart x0x_7 (by omega))
  have gt_8 := gt_7.kept g8 (x0x_3.apart' gt_7 (by omega))
  have t0_8 := t0_7.kept g8 (x0x_3.apart' t0_7 (by omega))
  have r0_8 := r0_0.ext X8
  go_wp2_with fail
  refine (l_eqInt64S_t _ _ R _ gt_8.rd wt_8.rd).mono ?_
  rintro e w9 ⟨rfl, d9⟩
  have x9 := d9.ext
  have z9 := x9.size
  have X9 : Ext w w9 := X8.trans x9
  have s0_9 := s0_8.ext x9
  have wt_9 := wt_8.ext x9
  have x0x_9 := x0x_8.ext x9
  have gt_9 := gt_8.ext x9
  have t0_9 := t0_8.ext x9
  have r0_9 := r0_0.ext X9
  go_wp2_with fail
  refine (l_markInt64S _ (1) R _ _ (by omega) gt_9).mono ?_
  rintro e w10 ⟨rfl, gt_10, g10⟩
  have z10 := g10.size
  have X10 : Ext w w10 := Below.grown X9 g10 X9.size (fun j hj => Nat.le_trans (X3.size) (gt_9.lt j hj).1)
  have s0_10 := s0_9.kept g10 (s0_1.apart gt_9 (by omega))
  have wt_10 := wt_9.kept g10 (wt_2.apart gt_9 (by omega))
  have x0x_10 := x0x_9.kept g10 (x0x_3.apart gt_9 (by omega))
  have t0_10 := t0_9.kept g10 (gt_4.apart' t0_9 (by omega))
  have r0_10 := r0_0.ext X10
  go_wp2_with fail
  refine (l_heldInt64S _ 1 R.length _ (by omega) gt_10.rd).mono ?_
  rintro e _ ⟨rfl, rfl⟩
  go_wp2_with fail
  refine (l_toInt64S _ xs0 _ (by omega) r0_10).mono ?_
  rintro e w11 ⟨u_y0, rfl, y0_11, x11⟩
  have z11 := x11.size
  have X11 : Ext w w11 := X10.trans x11
  have s0_11 := s0_10.ext x11
  have wt_11 := wt_10.ext x11
  have x0x_11 := x0x_10.ext x11
  have gt_11 := gt_10.ext x11
  have t0_11 := t0_10.ext x11
  have r0_11 := r0_0.ext X11
  go_wp2_with fail
  refine (i_CycleType _ xs0 _ y0_11.rd (by omega)).mono ?_
  rintro e w12 ⟨u_ht, rfl, ht_12, x12⟩
  rw [← HR.out] at ht_12
  have z12 := x12.size
  have X12 : Ext w w12 := X11.trans x12
  have s0_12 := s0_11.ext x12
  have wt_12 := wt_11.ext x12
  have x0x_12 := x0x_11.ext x12
  have gt_12 := gt_11.ext x12
  have t0_12 := t0_11.ext x12
  have y0_12 := y0_11.ext x12
  have r0_12 := r0_0.ext X12
  go_wp2_with fail
  refine (l_eqInt64S_t _ _ R _ ht_12.rd wt_12.rd).mono ?_
  rintro e w13 ⟨rfl, d13⟩
  have x13 := d13.ext
  have z13 := x13.size
  have X13 : Ext w w13 := X12.trans x13
  have s0_13 := s0_12.ext x13
  have wt_13 := wt_12.ext x13
  have x0x_13 := x0x_12.ext x13
  have gt_13 := gt_12.ext x13
  have t0_13 := t0_12.ext x13
  have y0_13 := y0_12.ext x13
  have ht_13 := ht_12.ext x13
  have r0_13 := r0_0.ext X13
  go_wp2_with fail
  refine (l_heldInt64S _ 1 R.length _ (by omega) gt_13.rd).mono ?_
  rintro e _ ⟨rfl, rfl⟩
  go_wp2
  go_ret
  exact ⟨rfl, X13⟩

end Go.Proofs.Ytloacmfafccofaa
