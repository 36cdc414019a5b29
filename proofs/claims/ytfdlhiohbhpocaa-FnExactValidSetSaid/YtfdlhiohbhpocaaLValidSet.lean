/- ValidSet: the law's walk. No condition. -/
import Derived.Test.YtfdlhiohbhpocaaVSet
import Derived.Test.YtfdlhiohbhpocaaSlices
namespace Go.Proofs.Ytfdlhiohbhpocaa
open Go.RowKit

theorem l_ValidSet (w : World) (v0 : Value) (xs0 : List Int) (h0 : Rd w v0 xs0) (a1 : Int) :
    Calls Try.prog 12 #[v0, .int .i64 a1] w fun e w' => e = .returned (.bool true) ∧ Ext w w' := by
  have r0_0 := h0
  obtain ⟨ad0, cap0, rfl, hc0, hm0, _⟩ := h0
  by_cases hl0 : 1048576 < xs0.length
  · go_enter Try.func12, Try.ntmps12
    go_wp2
    go_ret
    exact ⟨rfl, Ext.refl _⟩
  have X0 : Ext w w := Ext.refl w
  go_enter Try.func12, Try.ntmps12
  go_wp2_with fail
  refine (l_toInt64S _ xs0 _ (by omega) r0_0).mono ?_
  rintro e w1 ⟨u_s0, rfl, s0_1, x1⟩
  have z1 := x1.size
  have X1 : Ext w w1 := X0.trans x1
  have r0_1 := r0_0.ext X1
  go_wp2_with fail
  refine (s_ValidSet _ xs0 a1 _ s0_1.rd ).mono ?_
  rintro e w2 ⟨rfl, d2⟩
  have x2 := d2.ext
  have z2 := x2.size
  have X2 : Ext w w2 := X1.trans x2
  have s0_2 := s0_1.ext x2
  have r0_2 := r0_0.ext X2
  go_wp2_with fail
  refine (l_toInt64S _ xs0 _ (by omega) r0_2).mono ?_
  rintro e w3 ⟨u_x0x, rfl, x0x_3, x3⟩
  have z3 := x3.size
  have X3 : Ext w w3 := X2.trans x3
  have s0_3 := s0_2.ext x3
  have r0_3 := r0_0.ext X3
  go_wp2_with fail
  refine (i_ValidSet _ xs0 a1 _ x0x_3.rd ).mono ?_
  rintro e w4 ⟨rfl, rfl⟩
  go_wp2_with fail
  refine (l_toInt64S _ xs0 _ (by omega) r0_3).mono ?_
  rintro e w4 ⟨u_t0, rfl, t0_4, x4⟩
  have z4 := x4.size
  have X4 : Ext w w4 := X3.trans x4
  have s0_4 := s0_3.ext x4
  have x0x_4 := x0x_3.ext x4
  have r0_4 := r0_0.ext X4
  go_wp2_with fail
  refine (l_eqInt64S_t _ _ xs0 _ x0x_4.rd t0_4.rd).mono ?_
  rintro e w5 ⟨rfl, d5⟩
  have x5 := d5.ext
  have z5 := x5.size
  have X5 : Ext w w5 := X4.trans x5
  have s0_5 := s0_4.ext x5
  have x0x_5 := x0x_4.ext x5
  have t0_5 := t0_4.ext x5
  have r0_5 := r0_0.ext X5
  go_wp2
  go_ret
  exact ⟨rfl, X5⟩

end Go.Proofs.Ytfdlhiohbhpocaa
