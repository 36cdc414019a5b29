/- The laws' own helpers on fields: markField, heldField. No condition. -/
import Derived.Test.YtafaecpmffmfgaaFldLaw
namespace Go.Proofs.Ytafaecpmffmfgaa
open Go.RowKit

theorem l_markField (P D : Int) (v : Value) (k : Nat) (xs : List Int) (lo : Nat) (w : World) (hk : k + xs.length ≤ 4000000) (h : Own w lo v xs) :
    Calls Try.prog 23 #[.agg #[.int .i64 P, .int .i64 D, v], .int .i64 k] w fun e w' => e = .returned (.int .i64 ((k + xs.length : Nat) : Int)) ∧ Own w' lo v (iota k xs.length) ∧ w.grownBy w' v.ownBlock := by
  have HO := Lib.hid (OwnV.ext h (ext_alloc w (.cells #[.int .i64 P, .int .i64 D, v] 27)))
  clear h
  go_enter Try.func23, Try.ntmps23
  go_wp2_with fail
  refine (l_markInt64S _ k xs lo _ hk HO.out).mono ?_
  rintro e w2 ⟨rfl, o2, g2⟩
  go_wp2
  go_ret
  exact ⟨rfl, o2, grownBy_trans (World.grownBy_alloc _ _ _) g2⟩
theorem l_heldField (P D : Int) (v : Value) (k n : Nat) (w : World) (hk : k + n ≤ 4000000) (h : Rd w v (iota k n)) :
    Calls Try.prog 24 #[.agg #[.int .i64 P, .int .i64 D, v], .int .i64 k] w fun e w' => e = .returned (.int .i64 ((k + n : Nat) : Int)) ∧ Ext w w' := by
  have HE := Lib.hid (ext_alloc w (.cells #[.int .i64 P, .int .i64 D, v] 27))
  have HR := Lib.hid (h.ext HE.out)
  obtain ⟨T, HT⟩ : ∃ T, Hid (T = ((k + n : Nat) : Int)) := ⟨_, Lib.hid rfl⟩
  have hT : 0 ≤ T := by rw [HT.out]; omega
  rw [← HT.out]
  clear h
  go_enter Try.func24, Try.ntmps24
  go_wp2_with fail
  refine (l_heldInt64S _ k n _ hk HR.out).mono ?_
  rintro e _ ⟨rfl, rfl⟩
  rw [← HT.out]
  go_wp2
  go_ret
  exact ⟨rfl, HE.out⟩
end Go.Proofs.Ytafaecpmffmfgaa
