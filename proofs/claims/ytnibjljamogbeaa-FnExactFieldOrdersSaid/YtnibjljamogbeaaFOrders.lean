/- FieldOrders: the walks of the program and of the reference, and the law. No condition. -/
import Derived.Test.YtnibjljamogbeaaSplit
import Derived.Test.YtnibjljamogbeaaSlices
namespace Go.Proofs.Ytnibjljamogbeaa
open Go.RowKit

def ppTo : Nat → List Int
  | 0 => []
  | k + 1 => ppTo k ++ (if 0 < (ppOut ((k : Int) + 2)).1 then [(k : Int) + 2] else [])
theorem ppTo_len : ∀ k, (ppTo k).length ≤ k
  | 0 => by simp [ppTo]
  | k + 1 => by
    have := ppTo_len k
    rw [ppTo, List.length_append]
    split <;> simp <;> omega
theorem ppTo_hit {k : Nat} (h : 0 < (ppOut ((k : Int) + 2)).1) : ppTo (k + 1) = ppTo k ++ [(k : Int) + 2] := by rw [ppTo, if_pos h]
theorem ppTo_miss {k : Nat} (h : ¬ 0 < (ppOut ((k : Int) + 2)).1) : ppTo (k + 1) = ppTo k := by rw [ppTo, if_neg h, List.append_nil]
def fOrd : List Int := ppTo 63
theorem pp_bd_all : (List.range 63).all (fun i => decide (0 ≤ (ppOut ((i : Int) + 2)).1 ∧ (ppOut ((i : Int) + 2)).1 ≤ 64 ∧ 0 ≤ (ppOut ((i : Int) + 2)).2 ∧ (ppOut ((i : Int) + 2)).2 ≤ 6)) = true := by decide +kernel
theorem pp_bd {n : Int} (h1 : 2 ≤ n) (h2 : n ≤ 64) : 0 ≤ (ppOut n).1 ∧ (ppOut n).1 ≤ 64 ∧ 0 ≤ (ppOut n).2 ∧ (ppOut n).2 ≤ 6 := by
  have h := (List.all_eq_true.1 pp_bd_all) (n - 2).toNat (by rw [List.mem_range]; omega)
  have h := of_decide_eq_true h
  rw [show (((n - 2).toNat : Nat) : Int) + 2 = n from by omega] at h
  exact h

theorem sp_PrimePower (n : Int) (w : World) (h1 : 2 ≤ n) (h2 : n ≤ 64) : Calls Try.prog 69 #[.int .i64 n] w fun e w' => e = .returned (.tuple #[.int .i64 (ppOut n).1, .int .i64 (ppOut n).2]) ∧ Ext w w' :=
  (s_l03Split n w).mono fun _ _ ⟨he, hw⟩ => ⟨by rw [he, split_pp h1 h2], by rw [hw]; exact Ext.refl _⟩
theorem i_FieldOrders (w : World) : Calls Try.prog 43 #[] w (RetInts w fOrd) := by
  go_enter Try.func43, Try.ntmps43
  go_wp2
  go_loopw [1, 2] (fun v q wr => ∃ k : Nat, k ≤ 63 ∧ q = .int .i64 ((k : Int) + 2) ∧ Hid (Own wr w.heap.size v (ppTo k)) ∧ Hid (Ext w wr)) (fun _ q _ => (100 - intOf q).toNat)
  case atStart => exact ⟨0, by omega, by go_num, Lib.hid (OwnV.nil _ _ _), Lib.hid (Ext.refl _)⟩
  case round =>
    obtain ⟨k, hk, rfl, hown, hext⟩ := hrel
    by_cases hlt : k < 63
    · have HB := pp_bd (n := (k : Int) + 2) (by omega) (by omega)
      obtain ⟨P, HP⟩ : ∃ P, Hid (P = (ppOut ((k : Int) + 2)).1) := ⟨_, Lib.hid rfl⟩
      obtain ⟨D, HD⟩ : ∃ D, Hid (D = (ppOut ((k : Int) + 2)).2) := ⟨_, Lib.hid rfl⟩
      rw [← HP.out, ← HD.out] at HB
      obtain ⟨b1, b2, b3, b4⟩ := HB
      go_wp2_with fail
      refine (i_PrimePower _ _ ).mono ?_
      rintro e w1 ⟨rfl, hx1⟩
      have hown1 := hown.out.ext hx1
      have hext1 := hext.out.trans hx1
      rw [← HP.out, ← HD.out]
      by_cases hp : 0 < P
      · have hown2 := hown1
        obtain ⟨a, cap, hv, hc, hm, _⟩ := hown1.rd
        clear hown1
        have hz := hext1.size
        have hlen : (ppTo k).length ≤ 1000000000000 := by have := ppTo_len k; omega
        clear hc hm hv
        go_wp2_with (at_builtin; refine wp_app1 _ rfl _ _ rfl _ _ (ppTo k) rfl hown2 ((k : Int) + 2) rfl hlen hz ?_; intro v' w' hown3 hgr)
        have HO : Hid (Own w' w.heap.size v' (ppTo (k + 1))) := Lib.hid (by rw [ppTo_hit (by rw [← HP.out]; exact hp)]; exact hown3)
        have HE : Hid (Ext w w') := Lib.hid (ext_app (e := 2) hext1 hown2 hgr)
        clear hown3 hgr hown2
        go_wp2
        exact ⟨⟨k + 1, by omega, by go_num, HO, HE⟩, by simp only [intOf]; omega⟩
      · have HO : Hid (Own w1 w.heap.size _ (ppTo (k + 1))) := Lib.hid (by rw [ppTo_miss (by rw [← HP.out]; exact hp)]; exact hown1)
        have HE := Lib.hid hext1
        clear hown1 hext1
        go_wp2
        exact ⟨⟨k + 1, by omega, by go_num, HO, HE⟩, by simp only [intOf]; omega⟩
    · obtain rfl : k = 63 := by omega
      go_wp2
      go_ret
      exact ⟨_, rfl, hown.out, hext.out⟩
theorem s_FieldOrders (w : World) : Calls Try.prog 42 #[] w (RetInts w fOrd) := by
  go_enter Try.func42, Try.ntmps42
  go_wp2
  go_loopw [1, 2] (fun v q wr => ∃ k : Nat, k ≤ 63 ∧ q = .int .i64 ((k : Int) + 2) ∧ Hid (Own wr w.heap.size v (ppTo k)) ∧ Hid (Ext w wr)) (fun _ q _ => (100 - intOf q).toNat)
  case atStart => exact ⟨0, by omega, by go_num, Lib.hid (OwnV.empty _ _), Lib.hid (ext_alloc _ _)⟩
  case round =>
    obtain ⟨k, hk, rfl, hown, hext⟩ := hrel
    by_cases hlt : k < 63
    · have HB := pp_bd (n := (k : Int) + 2) (by omega) (by omega)
      obtain ⟨P, HP⟩ : ∃ P, Hid (P = (ppOut ((k : Int) + 2)).1) := ⟨_, Lib.hid rfl⟩
      obtain ⟨D, HD⟩ : ∃ D, Hid (D = (ppOut ((k : Int) + 2)).2) := ⟨_, Lib.hid rfl⟩
      rw [← HP.out, ← HD.out] at HB
      obtain ⟨b1, b2, b3, b4⟩ := HB
      go_wp2_with fail
      refine (sp_PrimePower _ _ (by omega) (by omega)).mono ?_
      rintro e w1 ⟨rfl, hx1⟩
      have hown1 := hown.out.ext hx1
      have hext1 := hext.out.trans hx1
      rw [← HP.out, ← HD.out]
      by_cases hp : 0 < P
      · have hown2 := hown1
        obtain ⟨a, cap, hv, hc, hm, _⟩ := hown1.rd
        clear hown1
        have hz := hext1.size
        have hlen : (ppTo k).length ≤ 1000000000000 := by have := ppTo_len k; omega
        clear hc hm hv
        go_wp2_with (at_builtin; refine wp_app1 _ rfl _ _ rfl _ _ (ppTo k) rfl hown2 ((k : Int) + 2) rfl hlen hz ?_; intro v' w' hown3 hgr)
        have HO : Hid (Own w' w.heap.size v' (ppTo (k + 1))) := Lib.hid (by rw [ppTo_hit (by rw [← HP.out]; exact hp)]; exact hown3)
        have HE : Hid (Ext w w') := Lib.hid (ext_app (e := 2) hext1 hown2 hgr)
        clear hown3 hgr hown2
        go_wp2
        exact ⟨⟨k + 1, by omega, by go_num, HO, HE⟩, by simp only [intOf]; omega⟩
      · have HO : Hid (Own w1 w.heap.size _ (ppTo (k + 1))) := Lib.hid (by rw [ppTo_miss (by rw [← HP.out]; exact hp)]; exact hown1)
        have HE := Lib.hid hext1
        clear hown1 hext1
        go_wp2
        exact ⟨⟨k + 1, by omega, by go_num, HO, HE⟩, by simp only [intOf]; omega⟩
    · obtain rfl : k = 63 := by omega
      go_wp2
      go_ret
      exact ⟨_, rfl, hown.out, hext.out⟩
theorem fOrd_len : fOrd.length ≤ 3000000 := by have := ppTo_len 63; unfold fOrd; omega
theorem l_FieldOrders (w : World) :
    Calls Try.prog 13 #[] w fun e w' => e = .returned (.bool true) ∧ Ext w w' := by
  have hbd := Lib.hid (show (fOrd).length ≤ 3000000 from fOrd_len)
  obtain ⟨R, HR⟩ : ∃ R : List Int, Hid (R = fOrd) := ⟨_, Lib.hid rfl⟩
  have hb : R.length ≤ 3000000 := by rw [HR.out]; exact hbd.out
  clear hbd
  have X0 : Ext w w := Ext.refl w
  go_enter Try.func13, Try.ntmps13
  go_wp2_with fail
  refine (s_FieldOrders  _  ).mono ?_
  rintro e w1 ⟨u_wt, rfl, wt_1, x1⟩
  rw [← HR.out] at wt_1
  have z1 := x1.size
  have X1 : Ext w w1 := X0.trans x1
  go_wp2_with fail
  refine (i_FieldOrders  _  ).mono ?_
  rintro e w2 ⟨u_gt, rfl, gt_2, x2⟩
  rw [← HR.out] at gt_2
  have z2 := x2.size
  have X2 : Ext w w2 := X1.trans x2
  have wt_2 := wt_1.ext x2
  go_wp2_with fail
  refine (l_eqInt64S_t _ _ R _ gt_2.rd wt_2.rd).mono ?_
  rintro e w3 ⟨rfl, d3⟩
  have x3 := d3.ext
  have z3 := x3.size
  have X3 : Ext w w3 := X2.trans x3
  have wt_3 := wt_2.ext x3
  have gt_3 := gt_2.ext x3
  go_wp2_with fail
  refine (l_markInt64S _ (1) R _ _ (by omega) gt_3).mono ?_
  rintro e w4 ⟨rfl, gt_4, g4⟩
  have z4 := g4.size
  have X4 : Ext w w4 := Below.grown X3 g4 X3.size (fun j hj => Nat.le_trans (X1.size) (gt_3.lt j hj).1)
  have wt_4 := wt_3.kept g4 (wt_1.apart gt_3 (by omega))
  go_wp2_with fail
  refine (l_heldInt64S _ 1 R.length _ (by omega) gt_4.rd).mono ?_
  rintro e _ ⟨rfl, rfl⟩
  go_wp2_with fail
  refine (i_FieldOrders  _  ).mono ?_
  rintro e w5 ⟨u_ht, rfl, ht_5, x5⟩
  rw [← HR.out] at ht_5
  have z5 := x5.size
  have X5 : Ext w w5 := X4.trans x5
  have wt_5 := wt_4.ext x5
  have gt_5 := gt_4.ext x5
  go_wp2_with fail
  refine (l_eqInt64S_t _ _ R _ ht_5.rd wt_5.rd).mono ?_
  rintro e w6 ⟨rfl, d6⟩
  have x6 := d6.ext
  have z6 := x6.size
  have X6 : Ext w w6 := X5.trans x6
  have wt_6 := wt_5.ext x6
  have gt_6 := gt_5.ext x6
  have ht_6 := ht_5.ext x6
  go_wp2_with fail
  refine (l_heldInt64S _ 1 R.length _ (by omega) gt_6.rd).mono ?_
  rintro e _ ⟨rfl, rfl⟩
  go_wp2
  go_ret
  exact ⟨rfl, X6⟩

end Go.Proofs.Ytnibjljamogbeaa
