/- FactorsOf: the law's walk. No condition. -/
import Derived.Test.YtnibjljamogbeaaFactors
import Derived.Test.YtnibjljamogbeaaSlices
namespace Go.Proofs.Ytnibjljamogbeaa
open Go.RowKit

theorem l_FactorsOf (a0 : Int) (w : World) :
    Calls Try.prog 6 #[.int .i64 a0] w fun e w' => e = .returned (.bool true) ∧ Ext w w' := by
  have hbd := Lib.hid (show (facs a0).length ≤ 3000000 from Nat.le_trans (facs_len_le _) (by omega))
  obtain ⟨R, HR⟩ : ∃ R : List Int, Hid (R = facs a0) := ⟨_, Lib.hid rfl⟩
  have hb : R.length ≤ 3000000 := by rw [HR.out]; exact hbd.out
  clear hbd
  have X0 : Ext w w := Ext.refl w
  go_enter Try.func6, Try.ntmps6
  go_wp2_with fail
  refine (s_FactorsOf a0 _  ).mono ?_
  rintro e w1 ⟨u_wt, rfl, wt_1, x1⟩
  rw [← HR.out] at wt_1
  have z1 := x1.size
  have X1 : Ext w w1 := X0.trans x1
  go_wp2_with fail
  refine (i_FactorsOf a0 _  ).mono ?_
  rintro e w2 ⟨u_gt, rfl, gt_2, x2⟩
  rw [← HR.out] at gt_2
  have z2 := x2.size
  have X2 : Ext w w2 := X1.trans x2
  have wt_2 := wt_1.ext x2
  go_wp2_with fail
  refine (l_eqInt64S_t _ _ R _ gt_2.rd wt_2.rd).mono ?_
  rintro e w3 ⟨rfl, d3⟩
  have x3 := d3.ext
  have z3 := x3.size
  have X3 : Ext w w3 := X2.trans x3
  have wt_3 := wt_2.ext x3
  have gt_3 := gt_2.ext x3
  go_wp2_with fail
  refine (l_markInt64S _ (1) R _ _ (by omega) gt_3).mono ?_
  rintro e w4 ⟨rfl, gt_4, g4⟩
  have z4 := g4.size
  have X4 : Ext w w4 := Below.grown X3 g4 X3.size (fun j hj => Nat.le_trans (X1.size) (gt_3.lt j hj).1)
  have wt_4 := wt_3.kept g4 (wt_1.apart gt_3 (by omega))
  go_wp2_with fail
  refine (l_heldInt64S _ 1 R.length _ (by omega) gt_4.rd).mono ?_
  rintro e _ ⟨rfl, rfl⟩
  go_wp2_with fail
  refine (i_FactorsOf a0 _  ).mono ?_
  rintro e w5 ⟨u_ht, rfl, ht_5, x5⟩
  rw [← HR.out] at ht_5
  have z5 := x5.size
  have X5 : Ext w w5 := X4.trans x5
  have wt_5 := wt_4.ext x5
  have gt_5 := gt_4.ext x5
  go_wp2_with fail
  refine (l_eqInt64S_t _ _ R _ ht_5.rd wt_5.rd).mono ?_
  rintro e w6 ⟨rfl, d6⟩
  have x6 := d6.ext
  have z6 := x6.size
  have X6 : Ext w w6 := X5.trans x6
  have wt_6 := wt_5.ext x6
  have gt_6 := gt_5.ext x6
  have ht_6 := ht_5.ext x6
  go_wp2_with fail
  refine (l_heldInt64S _ 1 R.length _ (by omega) gt_6.rd).mono ?_
  rintro e _ ⟨rfl, rfl⟩
  go_wp2
  go_ret
  exact ⟨rfl, X6⟩

end Go.Proofs.Ytnibjljamogbeaa
